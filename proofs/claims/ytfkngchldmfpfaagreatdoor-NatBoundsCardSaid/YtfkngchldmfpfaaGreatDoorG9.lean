/-
  A part of a proof, joined by a program (wip/bundle3.py).
-/
import Derived.Test.YtfkngchldmfpfaaGreatDoorG2
import Derived.Test.YtfkngchldmfpfaaGreatDoorG3
import Derived.Test.YtfkngchldmfpfaaGreatDoorG6
import Derived.Test.YtfkngchldmfpfaaGreatDoorG8
set_option linter.unusedVariables false
set_option linter.unusedSimpArgs false
namespace Go.Proofs.YtfkngchldmfpfaaGreatDoor
section
open Go.RowKit
set_option maxRecDepth 10000
attribute [local irreducible] EK EX ER EN EL ES EG an aR aU
variable {W:World} {F:SL} {X:Cx} {k:List KI} {σ:Env} {p g:Option Addr} {ws:List Nat}
abbrev ju (w:bH):Value:= .agg #[.int .i64 (w.st:Int),.int .i64 (w.gen:Int),.int .i64 (w.tr:Int),.int .i64 (w.sn:Int)]
theorem zm (a b:Int):Spec Tryz.prog 171 [.int .i64 a,.int .i64 b] W F (fun _:Unit=> .bool (decide (0≤a∧a≤b))) (fun _=>F):=by
 refine Spec.of Tryz.func171 rfl Tryz.ntmps171 rfl ?_
 by_cases h1:0≤a
 ·by_cases h2:a≤b
  ·refine aa ?_;intros
   exact ae (aj rfl rfl () (by rw[decide_eq_true ⟨h1,h2⟩]) (U.sat (U.refl _)))
  ·refine aa ?_;intros
   exact ae (aj rfl rfl () (by rw[decide_eq_false (fun e=>h2 e.2)]) (U.sat (U.refl _)))
 ·refine aa ?_;intros
  exact ae (aj rfl rfl () (by rw[decide_eq_false (fun e=>h1 e.1)]) (U.sat (U.refl _)))
theorem LG {w:bH}(h:w.ok):Spec Tryz.prog 214 [ju w] W F (fun _:Unit=> .bool true) (fun _=>F):=by
 obtain⟨h1,h2,h3,h4⟩:=h
 refine Spec.of Tryz.func214 rfl Tryz.ntmps214 rfl ?_
 refine aa ?_;intros
 refine af rfl (zm _ _) ?_
 intro _
 rw[decide_eq_true ⟨by omega,by omega⟩]
 refine aa ?_;intros
 refine af rfl (zm _ _) ?_
 intro _
 rw[decide_eq_true (p:=0≤(w.gen:Int)∧(w.gen:Int)≤65535) ⟨by omega,by omega⟩]
 refine aa ?_;intros
 refine af rfl (zm _ _) ?_
 intro _
 rw[decide_eq_true (p:=0≤(w.tr:Int)∧(w.tr:Int)≤7) ⟨by omega,by omega⟩]
 refine aa ?_;intros
 refine af rfl (zm _ _) ?_
 intro _
 rw[decide_eq_true (p:=0≤(w.sn:Int)∧(w.sn:Int)≤4294967295) ⟨by omega,by omega⟩]
 refine aa ?_;intros
 exact ae (aj rfl rfl () rfl (U.sat U.last))
theorem Wz {w:bH}(h:w.ok):bits .or .u64 (bits .or .u64 (bits .or .u64 (w.st:Int) (IntKind.u64.wrap ((w.tr:Int)*2^Int.toNat 8))) (IntKind.u64.wrap ((w.gen:Int)*2^Int.toNat 16))) (IntKind.u64.wrap ((w.sn:Int)*2^Int.toNat 32))=(w.num:Int):=by
 obtain⟨h1,h2,h3,h4⟩:=h
 rw[show IntKind.u64.wrap ((w.tr:Int)*2^Int.toNat 8)=((w.tr*2^8:Nat):Int)from oQ w.tr 8 (by omega),show IntKind.u64.wrap ((w.gen:Int)*2^Int.toNat 16)=((w.gen*2^16:Nat):Int)from oQ w.gen 16 (by omega),
  show IntKind.u64.wrap ((w.sn:Int)*2^Int.toNat 32)=((w.sn*2^32:Nat):Int)from oQ w.sn 32 (by omega),tD (by omega) (by omega),tD (by omega) (by omega),tD (by omega) (by omega)]
 rfl
theorem Y4 {n:Nat}(hn:n<18446744073709551616):(Value.agg #[.int .i64 (IntKind.i64.wrap (bits .and .u64 (n:Int) 3)),.int .i64 (IntKind.i64.wrap (bits .and .u64 ((n:Int)/2^Int.toNat 16) 65535)),.int .i64 (IntKind.i64.wrap (bits .and .u64 ((n:Int)/2^Int.toNat 8) 7)),.int .i64 (IntKind.i64.wrap ((n:Int)/2^Int.toNat 32))])=ju (bH.of n):=by
 rw[show bits .and .u64 (n:Int) 3=((n%2^2:Nat):Int)from rZ 2 hn (by decide),show(n:Int)/2^Int.toNat 16=((n/2^16:Nat):Int)from nk n 16,show(n:Int)/2^Int.toNat 8=((n/2^8:Nat):Int)from nk n 8,show(n:Int)/2^Int.toNat 32=((n/2^32:Nat):Int)from nk n 32,
  show bits .and .u64 ((n/2^16:Nat):Int) 65535=((n/2^16%2^16:Nat):Int)from rZ 16 (by omega) (by decide),show bits .and .u64 ((n/2^8:Nat):Int) 7=((n/2^8%2^3:Nat):Int)from rZ 3 (by omega) (by decide),
  mr (by omega),mr (by omega),mr (by omega),mr (by omega)]
 rfl
theorem KU {w:bH}(h:w.ok):Spec Tryz.prog 164 [ju w] W F (fun _:Unit=> .int .u64 (w.num:Int)) (fun _=>F):=by
 refine Spec.of Tryz.func164 rfl Tryz.ntmps164 rfl ?_
 have h':=h
 obtain⟨h1,h2,h3,h4⟩:=h'
 refine aa ?_;intros
 exact ae (aj rfl rfl () (by rw[Wz h]) (U.sat U.last))
theorem P1 {n:Nat}(hn:n<18446744073709551616):Spec Tryz.prog 76 [.int .u64 (n:Int)] W F (fun _:Unit=>ju (bH.of n)) (fun _=>F):=by
 refine Spec.of Tryz.func76 rfl Tryz.ntmps76 rfl ?_
 refine aa ?_;intros
 exact ae (lQ (rv:= .cell 2 117) rfl ⟨_,rfl,aX.agg rfl⟩ () (Y4 hn) (U.sat U.last))
theorem IZ {a:Nat}(h:a≤65535):bits .and .i64 ((a:Int)+1) 65535=(((a+1)%65536:Nat):Int):=EW (a+1) 16 (by omega) (by decide)
theorem Ah {a b:bH}:(@decide (([.int .i64 (b.st:Int),.int .i64 (b.gen:Int),.int .i64 (b.tr:Int),.int .i64 (b.sn:Int)]:List Value)=[.int .i64 (b.st:Int),.int .i64 (a.gen:Int),.int .i64 (a.tr:Int),.int .i64 (a.sn:Int)]) (Classical.propDecidable _))=decide (b={a with st:=b.st}):=by
 obtain⟨a1,a2,a3,a4⟩:=a
 obtain⟨b1,b2,b3,b4⟩:=b
 rw[decide_eq_decide]
 simp only[List.cons.injEq,Value.int.injEq,bH.mk.injEq,and_true,true_and,Int.natCast_inj]
theorem On {a b:bH}(ha:a.ok)(hb:b.ok):Spec Tryz.prog 163 [ju a,ju b] W F (fun _:Unit=> .bool (ng a b)) (fun _=>F):=by
 refine Spec.of Tryz.func163 rfl Tryz.ntmps163 rfl ?_
 have ha1:=ha.1
 have AD:=ha.2.1
 refine aa ?_;intros
 refine af rfl (LG ha) ?_
 intro _
 refine aa ?_;intros
 refine af rfl (LG hb) ?_
 intro _
 have eK:a.st=0∨a.st=1∨a.st=2∨a.st=3:=by omega
 rcases eK with e|e|e|e
 ·by_cases e1:b.st=1
  ·refine aa ?_;intros
   refine ae (aj rfl rfl () ?_ (U.sat U.last))
   rw[KA e,IZ AD]
   rw[decide_eq_true e1,Bool.true_and];simp only[Int.natCast_inj]
  ·refine aa ?_;intros
   refine ae (aj rfl rfl () ?_ (U.sat U.last))
   rw[KA e]
   rw[decide_eq_false e1,Bool.false_and]
 ·by_cases e1:b.st=2
  ·refine aa ?_;intros
   refine ae (aj rfl rfl () ?_ (U.sat U.last))
   rw[Fc e,Ah]
   rw[decide_eq_true e1,Bool.true_or,Bool.true_and]
  ·by_cases e2:b.st=0
   ·refine aa ?_;intros
    refine ae (aj rfl rfl () ?_ (U.sat U.last))
    rw[Fc e,Ah]
    rw[decide_eq_true e2,Bool.or_true,Bool.true_and]
   ·refine aa ?_;intros
    refine ae (aj rfl rfl () ?_ (U.sat U.last))
    rw[Fc e]
    rw[decide_eq_false e1,decide_eq_false e2,Bool.or_false,Bool.false_and]
 ·by_cases e1:b.st=2
  ·by_cases e2:b.gen=a.gen
   ·refine aa ?_;intros
    refine ae (aj rfl rfl () ?_ (U.sat U.last))
    rw[Bw e]
    rw[if_pos e1,decide_eq_true e2,Bool.true_and];simp only[ge_iff_le,Int.ofNat_le]
   ·refine aa ?_;intros
    refine ae (aj rfl rfl () ?_ (U.sat U.last))
    rw[Bw e]
    rw[if_pos e1,decide_eq_false e2,Bool.false_and]
  ·by_cases e2:b.st=3
   ·refine aa ?_;intros
    refine ae (aj rfl rfl () ?_ (U.sat U.last))
    rw[Bw e,Ah]
    rw[if_neg e1,decide_eq_true e2,Bool.true_and]
   ·refine aa ?_;intros
    refine ae (aj rfl rfl () ?_ (U.sat U.last))
    rw[Bw e]
    rw[if_neg e1,decide_eq_false e2,Bool.false_and]
 ·by_cases e1:b.st=0
  ·refine aa ?_;intros
   refine ae (aj rfl rfl () ?_ (U.sat U.last))
   rw[KB e,Ah]
   rw[decide_eq_true e1,Bool.true_and]
  ·refine aa ?_;intros
   refine ae (aj rfl rfl () ?_ (U.sat U.last))
   rw[KB e]
   rw[decide_eq_false e1,Bool.false_and]
theorem GA {α:Sort _}{ops l:List Oper}{F:SL}{P:α→SL}(h:∀a,EL X k ops l σ (P a*F)):EL X k ops l σ (SL.ex P*F):=by
 unfold EL at h ⊢
 exact fun a w ha hs=>let⟨x,hx⟩:=hs.jA;h x a w ha hx
abbrev jh (p g:Option Addr)(ws:List Nat)(F:SL):SL:=Obj p 163 [.pointer g]*(cB g ws*F)
def sG (p:Option Addr)(ws:List Nat)(g:Option Addr):SL:=Obj p 163 [.pointer g]*cB g ws
def aG (p:Option Addr)(ws:List Nat):SL:=SL.ex (sG p ws)
theorem sG.eq (p:Option Addr)(ws:List Nat)(g:Option Addr)(F:SL):sG p ws g*F=jh p g ws F:=by
 unfold sG jh
 rw[SL.bP]
theorem aG.open (H:∀g,EK X k σ (jh p g ws F)):EK X k σ (aG p ws*F):=pR fun g=>by
 rw[sG.eq];exact H g
theorem aG.shut {g:Option Addr}:U (jh p g ws F) (aG p ws*F):=U.ex g (by rw[sG.eq];exact U.refl _)
instance (priority:=2000)(p:Option Addr)(ws:List Nat)(F:SL):bZ (aG p ws*F) p (aG p ws) F:=⟨rfl⟩
instance (p:Option Addr)(ws:List Nat):lT (aG p ws) p:=⟨fun W w F H=>by
 obtain⟨g,H⟩:=H.jA
 rw[sG.eq]at H
 exact(Obj.root p _ _).nn W w _ H⟩
theorem Pz {n:Nat}(h1:1≤n)(h2:n≤3072):Spec Tryz.prog 47 [.int .i64 (n:Int)] W F (fun p:Option Addr=> .tuple #[.pointer p,.int .i64 0]) (fun p=>aG p (List.replicate (2*n) 0)*F):=by
 refine Spec.of Tryz.func47 rfl Tryz.ntmps47 rfl ?_
 refine aa ?_;intros
 rw[show(2:Int)*(n:Int)=((2*n:Nat):Int)by omega]
 refine af rfl (zy (2*n) (by omega) (by omega)) ?_
 intro g
 refine aa ?_;intros
 rename_i x
 refine ae (fz rfl rfl rfl x rfl (U.sat (U.trans ?_ (aG.shut (g:=g)))))
 exact ab
theorem Hl {n:Nat}(hl:ws.length=2*n)(h2:n≤3072):Spec Tryz.prog 53 [.pointer p] W (jh p g ws F) (fun _:Unit=> .int .i64 (n:Int)) (fun _=>jh p g ws F):=by
 refine Spec.of Tryz.func53 rfl Tryz.ntmps53 rfl ?_
 simp only[jh]
 refine aa ?_;intros
 refine af rfl (Spec.aL g (zO g ws)) ?_
 intro _
 rw[hl]
 refine aa ?_;intros
 refine ae (aj rfl rfl () ?_ (U.sat ?_))
 ·rw[show((2*n:Nat):Int)/2=(n:Int)by omega]
 ·exact ab
theorem Hk {n:Nat}(hl:ws.length=2*n)(h2:n≤3072):Spec Tryz.prog 53 [.pointer p] W (aG p ws*F) (fun _:Unit=> .int .i64 (n:Int)) (fun _=>aG p ws*F):=by
 intro w hs
 obtain⟨g,hs⟩:=hs.jA
 rw[sG.eq]at hs
 refine Calls.mono (Hl hl h2 w hs) ?_
 rintro e w' ⟨u,h1,h3⟩
 exact⟨u,h1,aG.shut.sat w' h3⟩
theorem B9 {n i:Nat}(hl:ws.length=2*n)(h2:n≤3072)(hi:i<n):Spec Tryz.prog 75 [.pointer p,.int .i64 (i:Int)] W (jh p g ws F) (fun _:Unit=> .bool true) (fun _=>jh p g ws F):=by
 refine Spec.of Tryz.func75 rfl Tryz.ntmps75 rfl ?_
 simp only[jh]
 refine aa ?_;intros
 refine af rfl (Hl hl h2) ?_
 intro _
 simp only[jh]
 refine aa ?_;intros
 exact ae (aj rfl rfl () rfl (U.sat (U.refl _)))
theorem zJ {n i:Nat}(hl:ws.length=2*n)(h2:n≤3072)(hi:i<n)(hw:∀j,ws.getD j 0<18446744073709551616):Spec Tryz.prog 54 [.pointer p,.int .i64 (i:Int)] W (aG p ws*F) (fun _:Unit=>ju (bH.of (ws.getD (2*i) 0))) (fun _=>aG p ws*F):=by
 refine Spec.of Tryz.func54 rfl Tryz.ntmps54 rfl ?_
 refine aG.open fun g=> ?_
 simp only[jh]
 refine aa ?_;intros
 rename_i y
 refine af rfl (Spec.eZ p g (B9 hl h2 hi)) ?_
 intro _
 simp only[jh]
 refine aa ?_;intros
 rw[show(2:Int)*(i:Int)=((2*i:Nat):Int)by omega]
 refine af rfl (Spec.aL g (fM g ws (2*i) (by omega) (by omega))) ?_
 intro _
 refine aa ?_;intros
 refine af rfl (P1 (hw (2*i))) ?_
 intro _
 refine aa ?_;intros
 refine ae (lQ (rv:= .cell 4 117) rfl ⟨_,rfl,aX.agg rfl⟩ () rfl (U.sat (U.trans ?_ (aG.shut (g:=g)))))
 exact ab
theorem Py {n i:Nat}{a b:bH}(hl:ws.length=2*n)(h2:n≤3072)(hi:i<n)(ha:a.ok)(hb:b.ok):Spec Tryz.prog 117 [.pointer p,.int .i64 (i:Int),ju a,ju b] W (aG p ws*F) (fun _:Unit=> .bool (ng a b&&decide (ws.getD (2*i) 0=a.num)))
  (fun _=>aG p (if ng a b=true∧ws.getD (2*i) 0=a.num then ws.set (2*i) b.num else ws)*F):=by
 refine Spec.of Tryz.func117 rfl Tryz.ntmps117 rfl ?_
 refine aG.open fun g=> ?_
 simp only[jh]
 refine aa ?_;intros
 rename_i x1 x2
 refine ay 99 (Obj x2 117 b.vs*(Obj x1 117 a.vs*(Obj p 163 [.pointer g]*1))) rfl rfl rfl ?_
 refine ah ?_
 refine aw rfl rfl rfl rfl rfl (Spec.eZ p g (B9 hl h2 hi)) (fun _=>by simp only[jh];exact ab) ?_
 intro _
 simp only[jh]
 refine ah ?_
 refine aw rfl rfl rfl rfl rfl (On ha hb) (fun _=>ab) ?_
 intro _
 cases hm:ng a b with
 |false=>
  refine ah ?_
  refine aa ?_;intros
  refine ae (aj rfl rfl () (by rw[Bool.false_and]) (U.sat (U.trans ?_ (aG.shut (g:=g)))))
  rw[if_neg (by simp)]
  exact ab
 |true=>
  refine ah ?_
  rw[show(2:Int)*(i:Int)=((2*i:Nat):Int)by omega]
  refine aw rfl rfl rfl rfl rfl (KU ha) (fun _=>ab) ?_
  intro _
  refine ah ?_
  refine aw rfl rfl rfl rfl rfl (KU hb) (fun _=>ab) ?_
  intro _
  refine ah ?_
  refine aw rfl rfl rfl rfl rfl (Spec.aL g (ns g ws (2*i) a.num b.num (by omega) (by omega))) (fun _=>ab) ?_
  intro _
  refine ah ?_
  refine aa ?_;intros
  refine ae (aj rfl rfl () (by rw[Bool.true_and]) (U.sat (U.trans ?_ (aG.shut (g:=g)))))
  rw[show(if true=true∧ws.getD (2*i) 0=a.num then ws.set (2*i) b.num else ws)=if ws.getD (2*i) 0=a.num then ws.set (2*i) b.num else ws by simp]
  exact ab
theorem Vp {n:Nat}(h:n<18446744073709551616):(Value.agg #[.int .i64 (IntKind.i64.wrap ((n:Int)/2^Int.toNat 48)),.int .u32 (IntKind.u32.wrap ((n:Int)/2^Int.toNat 16)),.int .u16 (IntKind.u16.wrap (n:Int))])=
  .agg #[.int .i64 ((n/281474976710656:Nat):Int),.int .u32 ((n/65536%4294967296:Nat):Int),.int .u16 ((n%65536:Nat):Int)]:=by
 rw[show(n:Int)/2^Int.toNat 48=((n/281474976710656:Nat):Int)from nk n 48,show(n:Int)/2^Int.toNat 16=((n/65536:Nat):Int)from nk n 16,mr (by omega),IntKind.wrap_u32,IntKind.wrap_u16]
 simp only[Int.natCast_emod]
 rfl
theorem CT {n i:Nat}(hl:ws.length=2*n)(h2:n≤3072)(hi:i<n)(hw:∀j,ws.getD j 0<18446744073709551616):Spec Tryz.prog 56 [.pointer p,.int .i64 (i:Int)] W (aG p ws*F)
  (fun _:Unit=> .agg #[.int .i64 ((ws.getD (2*i+1) 0/281474976710656:Nat):Int),.int .u32 ((ws.getD (2*i+1) 0/65536%4294967296:Nat):Int),.int .u16 ((ws.getD (2*i+1) 0%65536:Nat):Int)]) (fun _=>aG p ws*F):=by
 refine Spec.of Tryz.func56 rfl Tryz.ntmps56 rfl ?_
 refine aG.open fun g=> ?_
 simp only[jh]
 refine aa ?_;intros
 rename_i y
 refine af rfl (Spec.eZ p g (B9 hl h2 hi)) ?_
 intro _
 simp only[jh]
 refine aa ?_;intros
 rw[show(2:Int)*(i:Int)+1=((2*i+1:Nat):Int)by omega]
 refine af rfl (Spec.aL g (fM g ws (2*i+1) (by omega) (by omega))) ?_
 intro _
 refine aa ?_;intros
 refine ae (lQ (rv:= .cell 4 72) rfl ⟨_,rfl,aX.agg rfl⟩ () (Vp (hw _)) (U.sat (U.trans ?_ (aG.shut (g:=g)))))
 exact ab
theorem PS {n i a b c:Nat}(hl:ws.length=2*n)(h2:n≤3072)(hi:i<n)(ha:a≤255)(hb:b<4294967296)(hc:c<65536):Spec Tryz.prog 127 [.pointer p,.int .i64 (i:Int),.agg #[.int .i64 (a:Int),.int .u32 (b:Int),.int .u16 (c:Int)]] W (aG p ws*F)
  (fun _:Unit=> .int .i64 0) (fun _=>aG p (ws.set (2*i+1) (iw a b c))*F):=by
 refine Spec.of Tryz.func127 rfl Tryz.ntmps127 rfl ?_
 refine aG.open fun g=> ?_
 simp only[jh]
 refine aa ?_;intros
 refine af rfl (Spec.eZ p g (B9 hl h2 hi)) ?_
 intro _
 simp only[jh]
 refine aa ?_;intros
 refine af rfl (zm _ _) ?_
 intro _
 rw[decide_eq_true (p:=0≤(a:Int)∧(a:Int)≤255) ⟨by omega,by omega⟩]
 refine aa ?_;intros
 refine kM 20 rfl (by kernel_rfl) rfl rfl ?_
 repeat(refine cD ?_)
 rw[show IntKind.u64.wrap ((a:Int)*2^Int.toNat 48)=((a*2^48:Nat):Int)from oQ a 48 (by omega),show IntKind.u64.wrap ((b:Int)*2^Int.toNat 16)=((b*2^16:Nat):Int)from oQ b 16 (by omega),Ki (by omega) hb hc,show(2:Int)*(i:Int)+1=((2*i+1:Nat):Int)by omega]
 refine af rfl (Spec.aL g (zP g ws (2*i+1) (iw a b c) (by omega) (by omega))) ?_
 intro _
 refine aa ?_;intros
 refine ae (aj rfl rfl () rfl (U.sat (U.trans ?_ (aG.shut (g:=g)))))
 exact ab
end
section
open Go.RowKit
set_option maxRecDepth 10000
attribute [local irreducible] EK EX ER EN EL ES EG an aR aU
variable {W:World} {F:SL} {X:Cx} {k:List KI} {σ:Env} {p g:Option Addr} {ws:List Nat}
theorem Ye {n:Nat}:Spec Tryz.prog 240 [.int .u64 (n:Int)] W F (fun _:Unit=> .int .u64 (pM n:Int)) (fun _=>F):=by
 refine Spec.of Tryz.func240 rfl Tryz.ntmps240 rfl ?_
 refine aa ?_;intros
 refine ae (aj rfl rfl () ?_ (U.sat U.last))
 have h1:n*11400714819323198485%18446744073709551616<18446744073709551616:=Nat.mod_lt _ (by decide)
 rw[show(n:Int)*11400714819323198485=(n:Int)*((11400714819323198485:Nat):Int)from rfl,KE,MS h1]
 have h2:=ZU h1
 rw[show ∀a:Nat,(a:Int)*13787848793156543929=(a:Int)*((13787848793156543929:Nat):Int)from fun _=>rfl,KE,MS (Nat.mod_lt _ (by decide))]
 rfl
theorem IG (b:Int):Spec Tryz.prog 72 [.int .i64 b] W F (fun _:Unit=> .bool (fV b)) (fun _=>F):=by
 refine Spec.of Tryz.func72 rfl Tryz.ntmps72 rfl ?_
 by_cases h1:2≤b
 ·by_cases h2:b≤1024
  ·obtain⟨k,rfl⟩:∃k:Nat,b=(k:Int):=⟨b.toNat,by omega⟩
   refine aa ?_;intros
   exact ae (aj rfl rfl () (by rw[Sk (by omega) (by omega)]) (U.sat U.last))
  ·refine aa ?_;intros
   exact ae (aj rfl rfl () (by rw[IF (fun e=>h2 e.2)]) (U.sat U.last))
 ·refine aa ?_;intros
  exact ae (aj rfl rfl () (by rw[IF (fun e=>h1 e.1)]) (U.sat U.last))
theorem Xv {u i:Nat}(hu:u<18446744073709551616):IntKind.i64.wrap (bits .and .u64 ((u:Int)/2^(12*(i:Int)).toNat) 4095)=((u/2^(12*i)%4096:Nat):Int):=by
 have h1:u/2^(12*i)<18446744073709551616:=Nat.lt_of_le_of_lt (Nat.div_le_self _ _) hu
 rw[show(12*(i:Int))=((12*i:Nat):Int)by omega,nk,show bits .and .u64 ((u/2^(12*i):Nat):Int) 4095=((u/2^(12*i)%2^12:Nat):Int)from rZ 12 h1 (by decide),mr (by omega)]
theorem js {u i:Nat}(hu:u<18446744073709551616)(hi:i<4):Spec Tryz.prog 204 [.int .u64 (u:Int),.int .i64 (i:Int)] W F (fun _:Unit=> .int .i64 (bV u i)) (fun _=>F):=by
 refine Spec.of Tryz.func204 rfl Tryz.ntmps204 rfl ?_
 refine aa ?_;intros
 exact ae (aj rfl rfl () (by rw[Xv hu];exact congrArg _ (cG.wrap (by simp only[cG];omega))) (U.sat U.last))
theorem vc {u:Nat}(id:Int)(hu:u<18446744073709551616):Spec Tryz.prog 196 [.int .u64 (u:Int),.int .i64 id] W F (fun _:Unit=> .int .i64 (fj u id)) (fun _=>F):=by
 refine Spec.of Tryz.func196 rfl Tryz.ntmps196 rfl ?_
 refine aa ?_;intros
 refine fy (γ:=Nat) (fun i=>i≤4∧∀j,j<i→bV u j≠id) (fun i=>[(0,.int .u64 (u:Int)),(1,.int .i64 id),(6,.int .i64 (i:Int))]) (fun _=>F) (fun i=>4-i) 0 ⟨Nat.zero_le _,fun j hj=>by omega⟩ ⟨rfl,rfl,rfl,trivial⟩ (U.sat (U.refl _)) ?_
 intro i ⟨hi,hj⟩
 by_cases lE:i<4
 ·refine aa ?_;intros
  refine af rfl (js hu lE) ?_
  intro _
  by_cases hx:bV u i=id
  ·refine aa ?_;intros
   refine ae (aj rfl rfl () ?_ (U.sat (U.refl _)))
   unfold fj
   match i,lE,hx,hj with
   |0,_,hx,_=>rw[if_pos hx];rfl
   |1,_,hx,hj=>rw[if_neg (hj 0 (by decide)),if_pos hx];rfl
   |2,_,hx,hj=>rw[if_neg (hj 0 (by decide)),if_neg (hj 1 (by decide)),if_pos hx];rfl
   |3,_,hx,hj=>rw[if_neg (hj 0 (by decide)),if_neg (hj 1 (by decide)),if_neg (hj 2 (by decide)),if_pos hx];rfl
  ·refine aa ?_;intros
   refine cJ (i+1) ⟨by omega,fun j h=> ?_⟩ (by omega) ⟨rfl,rfl,rfl,trivial⟩ (U.sat (U.refl _))
   rcases Nat.lt_succ_iff_lt_or_eq.1 h with h|rfl
   ·exact hj j h
   ·exact hx
 ·refine aa ?_;intros
  refine ae (aj rfl rfl () ?_ (U.sat (U.refl _)))
  unfold fj
  rw[if_neg (hj 0 (by omega)),if_neg (hj 1 (by omega)),if_neg (hj 2 (by omega)),if_neg (hj 3 (by omega))]
theorem Ln {i v:Nat}(hi:i<4)(hv:v<4096):v*2^(12*i)<281474976710656:=by
 match i,hi with
 |0,_=>omega
 |1,_=>omega
 |2,_=>omega
 |3,_=>omega
theorem YE {u i v:Nat}(hu:u<18446744073709551616)(hi:i<4)(hv:v<4096):IntKind.u64.wrap (bits .or .u64 (bits .andNot .u64 (u:Int) (IntKind.u64.wrap (4095*2^(12*(i:Int)).toNat))) (IntKind.u64.wrap ((v:Int)*2^(12*(i:Int)).toNat))+281474976710656)=(nD u i v:Int):=by
 have h1:=Ln hi hv
 have h2:=Ln hi (v:=4095) (by decide)
 rw[show(12*(i:Int))=((12*i:Nat):Int)by omega,show IntKind.u64.wrap ((4095:Int)*2^((12*i:Nat):Int).toNat)=((4095*2^(12*i):Nat):Int)from oQ 4095 (12*i) (by omega),oQ v (12*i) (by omega),
  u64_andNot_nat _ _ hu (by omega),u64_or_nat _ _ (Nat.lt_of_le_of_lt Nat.and_le_left hu) (by omega),IntKind.wrap_u64]
 unfold nD
 omega
theorem Me {u i v:Nat}(hu:u<18446744073709551616)(hi:i<4)(hv:v<4096):Spec Tryz.prog 241 [.int .u64 (u:Int),.int .i64 (i:Int),.int .u64 (v:Int)] W F (fun _:Unit=> .int .u64 (nD u i v:Int)) (fun _=>F):=by
 refine Spec.of Tryz.func241 rfl Tryz.ntmps241 rfl ?_
 refine aa ?_;intros
 exact ae (aj rfl rfl () (by rw[YE hu hi hv]) (U.sat U.last))
theorem My (u:Nat)(id:Int):fj u id<4∧ -1≤fj u id:=by
 unfold fj
 repeat(first|(split; ·omega)|omega)
theorem vK {u:Nat}(hu:u<18446744073709551616):Spec Tryz.prog 205 [.int .u64 (u:Int)] W F (fun _:Unit=> .bool (dt u)) (fun _=>F):=by
 refine Spec.of Tryz.func205 rfl Tryz.ntmps205 rfl ?_
 refine aa ?_;intros
 refine af rfl (vc _ hu) ?_
 intro _
 refine aa ?_;intros
 exact ae (aj rfl rfl () rfl (U.sat U.last))
theorem ME {u:Nat}{id:Int}(hu:u<18446744073709551616)(h1:0≤id)(h2:id<4095)(hf:dt u=false):Spec Tryz.prog 212 [.int .u64 (u:Int),.int .i64 id] W F (fun _:Unit=> .int .u64 (ll u id:Int)) (fun _=>F):=by
 refine Spec.of Tryz.func212 rfl Tryz.ntmps212 rfl ?_
 have hw:=My u (-1)
 have s7:0≤fj u (-1):=by unfold dt at hf;have:=of_decide_eq_false hf;omega
 obtain⟨i,hi⟩:∃i:Nat,fj u (-1)=(i:Int):=⟨(fj u (-1)).toNat,by omega⟩
 obtain⟨k,rfl⟩:∃k:Nat,id=(k:Int):=⟨id.toNat,by omega⟩
 have gV:ll u (k:Int)=nD u i (k+1):=by unfold ll;rw[hi];rfl
 refine aa ?_;intros
 refine af rfl (vc _ hu) ?_
 intro _
 rw[hi]
 refine aa ?_;intros
 rw[show((k:Int)+1)=((k+1:Nat):Int)by omega]
 refine af rfl (Me hu (by omega) (by omega)) ?_
 intro _
 refine aa ?_;intros
 exact ae (aj rfl rfl () (by rw[gV]) (U.sat U.last))
abbrev xQ (a:Int)(b c:Nat):Value:= .agg #[.int .i64 a,.int .u32 (b:Int),.int .u16 (c:Int)]
def yJ (a:Int)(b c:Nat):Nat:=iw ((a%65536).toNat) b c
def rV (a:Int)(b c:Nat)(k:Int):Int×Int:=if fV k=true then(((iN (yJ a b c) k.toNat).1:Int),((iN (yJ a b c) k.toNat).2:Int))else(0,0)
theorem Hq (a:Int){b c:Nat}(k:Int)(hb:b<4294967296)(hc:c<65536):Spec Tryz.prog 194 [xQ a b c,.int .i64 k] W F (fun _:Unit=> .tuple #[.int .i64 (rV a b c k).1,.int .i64 (rV a b c k).2]) (fun _=>F):=by
 refine Spec.of Tryz.func194 rfl Tryz.ntmps194 rfl ?_
 refine aa ?_;intros
 refine af rfl (IG k) ?_
 intro _
 cases hf:fV k with
 |false=>
  refine aa ?_;intros
  exact ae (fz rfl rfl rfl () (by unfold rV;rw[hf];rfl) (U.sat U.last))
 |true=>
  have hk:2≤k∧k≤1024:=by unfold fV at hf;have:=of_decide_eq_true hf;omega
  obtain⟨n,rfl⟩:∃n:Nat,k=(n:Int):=⟨k.toNat,by omega⟩
  refine aa ?_;intros
  obtain⟨x,hx,mZ⟩:∃x:Nat,IntKind.u64.wrap a=(x:Int)∧x%65536=(a%65536).toNat:=⟨(a%18446744073709551616).toNat,by rw[IntKind.wrap_u64];omega,by omega⟩
  rw[hx,YZ x,show IntKind.u64.wrap ((b:Int)*2^Int.toNat 16)=((b*2^16:Nat):Int)from oQ b 16 (by omega),Ki (Nat.mod_lt _ (by decide)) hb hc,mZ]
  refine af rfl Ye ?_
  intro _
  have hs:=Yd (iw (a%65536).toNat b c)
  have qz:rV a b c (n:Int)=(((iN (iw (a%65536).toNat b c) n).1:Int),((iN (iw (a%65536).toNat b c) n).2:Int)):=by unfold rV yJ;rw[if_pos hf];rfl
  rw[qz]
  unfold iN
  generalize pM (iw (a%65536).toNat b c)=y at*
  haveI:Pos n:=⟨by omega⟩
  have hyn:y%n<n:=Nat.mod_lt _ (by omega)
  obtain⟨m,hm⟩:∃m,n=m+1:=⟨n-1,by omega⟩
  haveI:Pos m:=⟨by omega⟩
  have hdm:y/4294967296%m<m:=Nat.mod_lt _ (by omega)
  have TB:(y:Int)/2^Int.toNat 32=((y/4294967296:Nat):Int):=nk y 32
  have TC:((y/4294967296:Nat):Int)%(m:Int)=((y/4294967296%m:Nat):Int):=(Int.natCast_emod _ _).symm
  refine aa ?_;intros
  rw[show(y:Int)%(n:Int)=((y%n:Nat):Int)from(Int.natCast_emod _ _).symm]
  refine jf rfl (by kernel_rfl) ?_
  repeat(refine cD ?_)
  rw[TB,show((n:Int)-1)=(m:Int)by omega]
  repeat(refine cD ?_)
  rw[TC,mr (a:=y/4294967296%m) (by omega),show((y%n:Nat):Int)+1+((y/4294967296%m:Nat):Int)=((y%n+1+y/4294967296%m:Nat):Int)by omega,mr (by omega)]
  repeat(refine cD ?_)
  refine aa ?_;intros
  refine ae (fz rfl rfl rfl () ?_ (U.sat U.last))
  rw[show n-1=m by omega,←Int.natCast_emod]
end
section
open Go.RowKit
set_option maxRecDepth 10000
attribute [local irreducible] EK EX ER EN EL ES EG an aR aU
variable {W:World} {F:SL} {X:Cx} {k:List KI} {σ:Env} {p pp g:Option Addr} {ws cs pl:List Nat} {n np:Nat} {s:aT}
abbrev wL (w:bH)(l:List Value):List Value:= .int .i64 (w.st:Int):: .int .i64 (w.gen:Int):: .int .i64 (w.tr:Int):: .int .i64 (w.sn:Int)::l
def kI (s:aT):List Value:=(Value.int .i64 (s.kind:Int)::Value.int .i64 (s.f1:Int)::Value.int .u32 (s.f2:Int)::Value.int .u16 (s.f3:Int)::Value.int .i64 s.id::Value.int .i64 (s.a:Int)::Value.int .i64 (s.b:Int)::Value.int .i64 (s.next:Int)::Value.int .u64 (s.first:Int)::Value.int .u64 (s.word:Int)::Value.int .i64 (s.at_:Int)::Value.bool s.half::Value.int .i64 (s.seen.st:Int)::Value.int .i64 (s.seen.gen:Int)::Value.int .i64 (s.seen.tr:Int)::Value.int .i64 (s.seen.sn:Int)::Value.int .u64 (s.still:Int)::Value.int .i64 (s.m.phase:Int)::Value.int .i64 (s.m.id:Int)::Value.int .i64 (s.m.fr:Int)::Value.int .i64 (s.m.to:Int)::Value.int .i64 (s.m.version:Int)::Value.int .i64 (s.m.av:Int)::Value.int .i64 (s.v:Int)::Value.int .i64 (s.u:Int)::Value.int .i64 (s.o0:Int)::Value.int .i64 (s.o1:Int)::Value.int .i64 (s.o2:Int)::Value.int .i64 (s.o3:Int)::Value.int .u64 (s.g0:Int)::Value.int .u64 (s.g1:Int)::Value.int .u64 (s.g2:Int)::Value.int .u64 (s.g3:Int)::Value.int .i64 (s.cC:Int)::Value.bool s.second::Value.int .i64 s.found::Value.int .i64 (s.aP.st:Int)::Value.int .i64 (s.aP.gen:Int)::Value.int .i64 (s.aP.tr:Int)::Value.int .i64 (s.aP.sn:Int)::Value.int .i64 (s.end_:Int)::Value.bool s.done::[])
abbrev fi (s:aT):List Value:=(Value.int .i64 (s.kind:Int)::Value.int .i64 (s.f1:Int)::Value.int .u32 (s.f2:Int)::Value.int .u16 (s.f3:Int)::Value.int .i64 s.id::Value.int .i64 (s.a:Int)::Value.int .i64 (s.b:Int)::Value.int .i64 (s.next:Int)::Value.int .u64 (s.first:Int)::Value.int .u64 (s.word:Int)::Value.int .i64 (s.at_:Int)::Value.bool s.half::Value.int .i64 (s.seen.st:Int)::Value.int .i64 (s.seen.gen:Int)::Value.int .i64 (s.seen.tr:Int)::Value.int .i64 (s.seen.sn:Int)::Value.int .u64 (s.still:Int)::Value.int .i64 (s.m.phase:Int)::Value.int .i64 (s.m.id:Int)::Value.int .i64 (s.m.fr:Int)::Value.int .i64 (s.m.to:Int)::Value.int .i64 (s.m.version:Int)::Value.int .i64 (s.m.av:Int)::Value.int .i64 (s.v:Int)::Value.int .i64 (s.u:Int)::Value.int .i64 (s.o0:Int)::Value.int .i64 (s.o1:Int)::Value.int .i64 (s.o2:Int)::Value.int .i64 (s.o3:Int)::Value.int .u64 (s.g0:Int)::Value.int .u64 (s.g1:Int)::Value.int .u64 (s.g2:Int)::Value.int .u64 (s.g3:Int)::Value.int .i64 (s.cC:Int)::Value.bool s.second::Value.int .i64 s.found::Value.int .i64 (s.aP.st:Int)::Value.int .i64 (s.aP.gen:Int)::Value.int .i64 (s.aP.tr:Int)::Value.int .i64 (s.aP.sn:Int)::Value.int .i64 (s.end_:Int)::Value.bool s.done::[])
def aq (p:Option Addr)(s:aT):SL:=Obj p 286 (kI s)
theorem aq.open (H:EK X k σ (Obj p 286 (Value.int .i64 (s.kind:Int)::Value.int .i64 (s.f1:Int)::Value.int .u32 (s.f2:Int)::Value.int .u16 (s.f3:Int)::Value.int .i64 s.id::Value.int .i64 (s.a:Int)::Value.int .i64 (s.b:Int)::Value.int .i64 (s.next:Int)::Value.int .u64 (s.first:Int)::Value.int .u64 (s.word:Int)::Value.int .i64 (s.at_:Int)::Value.bool s.half::Value.int .i64 (s.seen.st:Int)::Value.int .i64 (s.seen.gen:Int)::Value.int .i64 (s.seen.tr:Int)::Value.int .i64 (s.seen.sn:Int)::Value.int .u64 (s.still:Int)::Value.int .i64 (s.m.phase:Int)::Value.int .i64 (s.m.id:Int)::Value.int .i64 (s.m.fr:Int)::Value.int .i64 (s.m.to:Int)::Value.int .i64 (s.m.version:Int)::Value.int .i64 (s.m.av:Int)::Value.int .i64 (s.v:Int)::Value.int .i64 (s.u:Int)::Value.int .i64 (s.o0:Int)::Value.int .i64 (s.o1:Int)::Value.int .i64 (s.o2:Int)::Value.int .i64 (s.o3:Int)::Value.int .u64 (s.g0:Int)::Value.int .u64 (s.g1:Int)::Value.int .u64 (s.g2:Int)::Value.int .u64 (s.g3:Int)::Value.int .i64 (s.cC:Int)::Value.bool s.second::Value.int .i64 s.found::Value.int .i64 (s.aP.st:Int)::Value.int .i64 (s.aP.gen:Int)::Value.int .i64 (s.aP.tr:Int)::Value.int .i64 (s.aP.sn:Int)::Value.int .i64 (s.end_:Int)::Value.bool s.done::[])*F)):EK X k σ (aq p s*F):=H
theorem aq.iK {ops o:List Oper}(H:EL X k ops o σ (Obj p 286 (Value.int .i64 (s.kind:Int)::Value.int .i64 (s.f1:Int)::Value.int .u32 (s.f2:Int)::Value.int .u16 (s.f3:Int)::Value.int .i64 s.id::Value.int .i64 (s.a:Int)::Value.int .i64 (s.b:Int)::Value.int .i64 (s.next:Int)::Value.int .u64 (s.first:Int)::Value.int .u64 (s.word:Int)::Value.int .i64 (s.at_:Int)::Value.bool s.half::Value.int .i64 (s.seen.st:Int)::Value.int .i64 (s.seen.gen:Int)::Value.int .i64 (s.seen.tr:Int)::Value.int .i64 (s.seen.sn:Int)::Value.int .u64 (s.still:Int)::Value.int .i64 (s.m.phase:Int)::Value.int .i64 (s.m.id:Int)::Value.int .i64 (s.m.fr:Int)::Value.int .i64 (s.m.to:Int)::Value.int .i64 (s.m.version:Int)::Value.int .i64 (s.m.av:Int)::Value.int .i64 (s.v:Int)::Value.int .i64 (s.u:Int)::Value.int .i64 (s.o0:Int)::Value.int .i64 (s.o1:Int)::Value.int .i64 (s.o2:Int)::Value.int .i64 (s.o3:Int)::Value.int .u64 (s.g0:Int)::Value.int .u64 (s.g1:Int)::Value.int .u64 (s.g2:Int)::Value.int .u64 (s.g3:Int)::Value.int .i64 (s.cC:Int)::Value.bool s.second::Value.int .i64 s.found::Value.int .i64 (s.aP.st:Int)::Value.int .i64 (s.aP.gen:Int)::Value.int .i64 (s.aP.tr:Int)::Value.int .i64 (s.aP.sn:Int)::Value.int .i64 (s.end_:Int)::Value.bool s.done::[])*F)):EL X k ops o σ (aq p s*F):=H
theorem aq.shut {l:List Value}(h:l=kI s):U (Obj p 286 l*F) (aq p s*F):=by subst h;exact U.refl _
theorem aq.bS {l:List Value}{G:SL}(h:l=kI s)(k:U F G):U (Obj p 286 l*F) (aq p s*G):=U.trans (aq.shut h) (U.cons k)
instance (priority:=2000)(p:Option Addr)(s:aT)(F:SL):bZ (aq p s*F) p (aq p s) F:=⟨rfl⟩
instance (p:Option Addr)(s:aT):lT (aq p s) p:=⟨fun W w F H=>(Obj.root p _ _).nn W w _ H⟩
abbrev lU (p pp g:Option Addr)(n:Nat)(cs:List Nat)(F:SL):SL:=Obj p 165 [.pointer pp,.pointer g,.int .i64 (n:Int)]*(cB g cs*F)
def tS (p pp:Option Addr)(n:Nat)(cs:List Nat)(g:Option Addr):SL:=Obj p 165 [.pointer pp,.pointer g,.int .i64 (n:Int)]*cB g cs
def aB (p pp:Option Addr)(n:Nat)(cs:List Nat):SL:=SL.ex (tS p pp n cs)
theorem tS.eq (p pp:Option Addr)(n:Nat)(cs:List Nat)(g:Option Addr)(F:SL):tS p pp n cs g*F=lU p pp g n cs F:=by
 unfold tS lU
 rw[SL.bP]
theorem aB.open (H:∀g,EK X k σ (lU p pp g n cs F)):EK X k σ (aB p pp n cs*F):=pR fun g=>by
 rw[tS.eq];exact H g
theorem aB.shut {g:Option Addr}:U (lU p pp g n cs F) (aB p pp n cs*F):=U.ex g (by rw[tS.eq];exact U.refl _)
instance (priority:=2000)(p pp:Option Addr)(n:Nat)(cs:List Nat)(F:SL):bZ (aB p pp n cs*F) p (aB p pp n cs) F:=⟨rfl⟩
instance (p pp:Option Addr)(n:Nat)(cs:List Nat):lT (aB p pp n cs) p:=⟨fun W w F H=>by
 obtain⟨g,H⟩:=H.jA
 rw[tS.eq]at H
 exact(Obj.root p _ _).nn W w _ H⟩
theorem PW {m:Nat}(hf:fV (n:Int)=true)(hl:ws.length=2*m)(hm:m≤3072):Spec Tryz.prog 49 [.pointer pp,.int .i64 (n:Int)] W (aG pp ws*F) (fun p:Option Addr=> .tuple #[.pointer p,.int .i64 0]) (fun p=>aB p pp n (List.replicate (n+1) 0)*(aG pp ws*F)):=by
 refine Spec.of Tryz.func49 rfl Tryz.ntmps49 rfl ?_
 have hk:2≤(n:Int)∧(n:Int)≤1024:=by unfold fV at hf;have:=of_decide_eq_true hf;omega
 refine aa ?_;intros
 refine af rfl (IG _) ?_
 intro _
 rw[hf]
 refine aa ?_;intros
 refine af rfl (Hk hl hm) ?_
 intro _
 refine aa ?_;intros
 rw[show(n:Int)+1=((n+1:Nat):Int)by omega]
 refine af rfl (zy (n+1) (by omega) (by omega)) ?_
 intro g
 refine aa ?_;intros
 rename_i x
 refine ae (fz rfl rfl rfl x rfl (U.sat (U.trans ?_ (aB.shut (g:=g)))))
 exact ab
theorem F1 {kd f1 f2 f3 nx:Nat}{id:Int}(hf:fV (n:Int)=true)(h1:f1≤255)(h2:f2<4294967296)(h3:f3<65536):Spec Tryz.prog 157 [.pointer p,.int .i64 (kd:Int),xQ (f1:Int) f2 f3,.int .i64 id,.int .i64 (nx:Int)] W (aB p pp n cs*F) (fun g:Option Addr=> .pointer g)
  (fun g=>aq g (tx kd f1 f2 f3 id nx n)*(aB p pp n cs*F)):=by
 refine Spec.of Tryz.func157 rfl Tryz.ntmps157 rfl ?_
 have hk:2≤(n:Int)∧(n:Int)≤1024:=by unfold fV at hf;have:=of_decide_eq_true hf;omega
 have qz:rV (f1:Int) f2 f3 (n:Int)=(((iN (iw f1 f2 f3) n).1:Int),((iN (iw f1 f2 f3) n).2:Int)):=by
  unfold rV yJ;rw[if_pos hf,show((f1:Int)%65536).toNat=f1 by omega];rfl
 refine aB.open fun g=> ?_
 simp only[lU]
 refine aa ?_;intros
 rename_i y
 refine ay 99 (Obj y 72 [.int .i64 (f1:Int),.int .u32 (f2:Int),.int .u16 (f3:Int)]*(Obj p 165 [.pointer pp,.pointer g,.int .i64 (n:Int)]*1)) rfl rfl rfl ?_
 refine ah ?_
 refine aw rfl rfl rfl rfl rfl (Hq _ _ h2 h3) (fun _=>ab) ?_
 intro _
 rw[qz]
 refine ah ?_
 refine aa ?_;intros
 rename_i x
 refine ae (aj rfl rfl x rfl (U.sat (U.trans ?_ (aq.shut (s:=tx kd f1 f2 f3 id nx n) rfl))))
 refine U.obj x rfl (U.trans ?_ (aB.shut (g:=g)))
 exact ab
theorem Hs {f1 f2 f3:Nat}(hf:fV (n:Int)=true)(h1:f1≤255)(h2:f2<4294967296)(h3:f3<65536):Spec Tryz.prog 110 [.pointer p,xQ (f1:Int) f2 f3] W (aB p pp n cs*F) (fun g:Option Addr=> .pointer g)
  (fun g=>aq g (tx 0 f1 f2 f3 (-1) 0 n)*(aB p pp n cs*F)):=by
 refine Spec.of Tryz.func110 rfl Tryz.ntmps110 rfl ?_
 refine aa ?_;intros
 refine af rfl (Spec.aL p (F1 (kd:=0) (nx:=0) hf h1 h2 h3)) ?_
 intro g
 refine aa ?_;intros
 exact ae (aj rfl rfl g rfl (U.sat (ab)))
theorem PX {f1 f2 f3:Nat}{id:Int}(hf:fV (n:Int)=true)(h1:f1≤255)(h2:f2<4294967296)(h3:f3<65536):Spec Tryz.prog 174 [.pointer p,xQ (f1:Int) f2 f3,.int .i64 id] W (aB p pp n cs*F) (fun g:Option Addr=> .pointer g)
  (fun g=>aq g (tx 1 f1 f2 f3 id 0 n)*(aB p pp n cs*F)):=by
 refine Spec.of Tryz.func174 rfl Tryz.ntmps174 rfl ?_
 refine aa ?_;intros
 refine af rfl (Spec.aL p (F1 (kd:=1) (nx:=0) hf h1 h2 h3)) ?_
 intro g
 refine aa ?_;intros
 exact ae (aj rfl rfl g rfl (U.sat (ab)))
theorem ug {e:Nat}:Spec Tryz.prog 197 [.pointer p,.int .i64 (e:Int)] W (aq p s*F) (fun _:Unit=> .tuple #[]) (fun _=>aq p (jS s e)*F):=by
 refine Spec.of Tryz.func197 rfl Tryz.ntmps197 rfl ?_
 refine aq.open ?_
 refine aa ?_;intros
 exact aE (aF rfl () rfl (U.sat (aq.shut (by rfl))))
theorem F4 {u nx:Nat}:Spec Tryz.prog 209 [.pointer p,.int .u64 (u:Int),.int .i64 (nx:Int)] W (aq p s*F) (fun _:Unit=> .tuple #[]) (fun _=>aq p (tC s u nx)*F):=by
 refine Spec.of Tryz.func209 rfl Tryz.ntmps209 rfl ?_
 refine aq.open ?_
 refine aa ?_;intros
 exact aE (aF rfl () rfl (U.sat (aq.shut (by rfl))))
theorem Qz (hk:s.kind≤2)(hw:s.first<18446744073709551616):Spec Tryz.prog 211 [.pointer p] W (aq p s*F) (fun _:Unit=> .int .i64 (p9 s:Int)) (fun _=>aq p s*F):=by
 refine Spec.of Tryz.func211 rfl Tryz.ntmps211 rfl ?_
 refine aq.open ?_
 by_cases h0:s.kind=0
 ·refine aa ?_;intros
  exact ae (aj rfl rfl () (by unfold p9;rw[if_pos h0];rfl) (U.sat (aq.shut (by rfl))))
 ·refine aa ?_;intros
  refine af rfl (vK hw) ?_
  intro _
  cases rD:dt s.first with
  |true=>
   refine aa ?_;intros
   exact ae (aj rfl rfl () (by unfold p9;rw[if_neg h0,rD];rfl) (U.sat (aq.shut (by rfl))))
  |false=>
   refine aa ?_;intros
   exact ae (aj rfl rfl () (by unfold p9;rw[if_neg h0,rD];rfl) (U.sat (aq.shut (by rfl))))
end
section
open Go.RowKit
set_option maxRecDepth 10000
attribute [local irreducible] EK EX ER EN EL ES EG an aR aU
variable {W:World} {F:SL} {X:Cx} {k:List KI} {σ:Env} {p pp g q:Option Addr} {ws cs pl:List Nat} {n np:Nat} {s:aT}
set_option maxHeartbeats 2000000 in
theorem Ku (h:He n np cs pl s):Spec Tryz.prog 210 [.pointer p,.pointer q] W (aq q s*(Obj p 165 [.pointer pp,.pointer g,.int .i64 (n:Int)]*(aG pp pl*F))) (fun _:Unit=> .bool (fv pl s).2)
  (fun _=>aq q (fv pl s).1*(Obj p 165 [.pointer pp,.pointer g,.int .i64 (n:Int)]*(aG pp pl*F))):=by
 refine Spec.of Tryz.func210 rfl Tryz.ntmps210 rfl ?_
 have eK:=FU (word:=s.word) (id:=s.id) 4 s.at_ (by omega)
 have hle:=FT s.word s.id 4 s.at_ h.oZ
 have gx:=h.word
 refine aa ?_;intros
 refine zC (γ:=aT) (fun t=>t={s with at_:=iY s.word s.id 4 s.at_}) (fun _=>[(0,.pointer p),(1,.pointer q),(4,.bool false)]) (fun t=>aq q t*(Obj p 165 [.pointer pp,.pointer g,.int .i64 (n:Int)]*(aG pp pl*F))) ?_ ?_
 ·refine fy (γ:=Nat×aT) (fun g=>g.2.at_≤4∧4≤g.2.at_+g.1∧iY s.word s.id g.1 g.2.at_=iY s.word s.id 4 s.at_∧g.2={s with at_:=g.2.at_}) (fun _=>[(0,.pointer p),(1,.pointer q),(4,.bool false)]) (fun i=>aq q i.2*(Obj p 165 [.pointer pp,.pointer g,.int .i64 (n:Int)]*(aG pp pl*F))) (fun g=>4-g.2.at_) (4,s) ⟨h.oZ,by dsimp only;omega,rfl,rfl⟩ ⟨rfl,rfl,rfl,trivial⟩ (U.sat (U.refl _)) ?_
  intro ⟨fu,t⟩ ⟨hi,rD,vP,ht⟩;dsimp only at hi rD vP ht ⊢
  have gF:t.word=s.word:=by rw[ht]
  have jH:t.id=s.id:=by rw[ht]
  have he:=vP
  rw[←gF,←jH]at he
  rw[←gF]at gx
  refine aq.open ?_
  refine aa ?_;intros
  by_cases lE:t.at_<4
  ·obtain⟨f,rfl⟩:∃f,fu=f+1:=⟨fu-1,by omega⟩
   have JX:=h.refs t.at_ lE
   rw[←gF]at JX
   refine ay 99 (Obj q 286 (fi t)*1) rfl rfl rfl ?_
   refine ah ?_
   refine aw rfl rfl rfl rfl rfl (js gx lE) (fun _=>ab) ?_
   intro _
   by_cases h1:bV t.word t.at_<0
   ·refine ah ?_
    refine aa ?_;intros
    refine cJ (f,{t with at_:=t.at_+1}) ⟨by dsimp only;omega,by dsimp only;omega,by dsimp only;rw[←gF,←jH,←he,iY,if_pos ⟨lE,.inl h1⟩],by dsimp only;rw[ht]⟩ (by dsimp only;omega) ⟨rfl,rfl,rfl,trivial⟩ (U.sat ?_)
    exact aq.shut (by rfl)
   ·by_cases h2:bV t.word t.at_=t.id
    ·refine ah ?_
     refine aw rfl rfl rfl rfl rfl (js gx lE) (fun _=>ab) ?_
     intro _
     refine ah ?_
     refine aa ?_;intros
     refine cJ (f,{t with at_:=t.at_+1}) ⟨by dsimp only;omega,by dsimp only;omega,by dsimp only;rw[←gF,←jH,←he,iY,if_pos ⟨lE,.inr h2⟩],by dsimp only;rw[ht]⟩ (by dsimp only;omega) ⟨rfl,rfl,rfl,trivial⟩ (U.sat ?_)
     exact aq.shut (by rfl)
    ·refine ah ?_
     refine aw rfl rfl rfl rfl rfl (js gx lE) (fun _=>ab) ?_
     intro _
     refine ah ?_
     refine aa ?_;intros
     have DT:iY s.word s.id (f+1) t.at_=t.at_:=by rw[←gF,←jH,iY,if_neg (fun e=>e.2.elim h1 h2)]
     rw[DT]at vP
     refine dI t (by rw[ht,←vP]) ⟨rfl,rfl,rfl,trivial⟩ (U.sat ?_)
     exact aq.shut (by rfl)
  ·refine ay 99 (Obj q 286 (fi t)*1) rfl rfl rfl ?_
   refine ah ?_
   refine aa ?_;intros
   have DT:iY s.word s.id fu t.at_=t.at_:=by
    cases fu with
    |zero=>rfl
    |succ f=>rw[iY,if_neg (fun e=>lE e.1)]
   rw[DT]at vP
   refine dI t (by rw[ht,←vP]) ⟨rfl,rfl,rfl,trivial⟩ (U.sat ?_)
   exact aq.shut (by rfl)
 ·intro t ht
  have gF:t.word=s.word:=by rw[ht]
  have jH:t.id=s.id:=by rw[ht]
  have Ba:t.at_=iY s.word s.id 4 s.at_:=by rw[ht]
  have vQ:t.f1≤255:=by rw[ht];exact h.f1
  have mR:t.f2<4294967296:=by rw[ht];exact h.f2
  have DU:t.f3<65536:=by rw[ht];exact h.f3
  rw[←Ba,←gF,←jH]at eK
  rw[←Ba]at hle
  rw[←gF]at gx
  have Ex:=h.pw
  have mY:=h.Xc
  have cU:=h.j7
  rw[show fv pl s=lb pl t by unfold fv;rw[ht]]
  have hrefs:=h.refs
  rw[←gF]at hrefs
  clear ht Ba gF jH
  refine aq.open ?_
  by_cases h4:t.at_=4
  ·refine aa ?_;intros
   have e:lb pl t=(t,true):=by unfold lb;rw[if_pos h4]
   rw[e]
   exact ae (aj rfl rfl () rfl (U.sat (aq.shut (by rfl))))
  ·have lE:t.at_<4:=by omega
   have JX:=hrefs t.at_ lE
   have hr0:¬bV t.word t.at_<0:=fun e=>eK ⟨lE,.inl e⟩
   obtain⟨j,hj⟩:∃j:Nat,bV t.word t.at_=(j:Int):=⟨(bV t.word t.at_).toNat,by omega⟩
   refine aa ?_;intros
   refine ay 99 (Obj q 286 (fi t)*1) rfl rfl rfl ?_
   refine ah ?_
   refine aw rfl rfl rfl rfl rfl (js gx lE) (fun _=>ab) ?_
   intro _
   rw[hj]
   refine ah ?_
   cases hh:t.half with
   |false=>
    refine aa ?_;intros
    refine af rfl (Spec.aL pp (zJ mY cU (by omega) Ex)) ?_
    intro _
    have e:lb pl t=if(bH.of (pl.getD (2*j) 0)).st=1∨(bH.of (pl.getD (2*j) 0)).st=2 then({t with seen:=bH.of (pl.getD (2*j) 0),half:=true},false)else({t with seen:=bH.of (pl.getD (2*j) 0),at_:=t.at_+1},decide (t.at_+1=4)):=by
     unfold lb;rw[if_neg h4,hj,if_pos hh,Int.toNat_natCast]
    rw[e]
    generalize bH.of (pl.getD (2*j) 0)=w at*
    by_cases w1:w.st=1
    ·refine aa ?_;intros
     rw[if_pos (.inl w1)]
     exact ae (aj rfl rfl () rfl (U.sat (aq.bS (by rfl) (ab))))
    ·by_cases w2:w.st=2
     ·refine aa ?_;intros
      rw[if_pos (.inr w2)]
      exact ae (aj rfl rfl () rfl (U.sat (aq.bS (by rfl) (ab))))
     ·refine aa ?_;intros
      rw[if_neg (fun e=>e.elim w1 w2)]
      refine ae (aj rfl rfl () ?_ (U.sat (aq.bS (by unfold kI;dsimp only;rw[hh];rfl) (ab))))
      exact congrArg _ (decide_eq_decide.2 (by omega))
   |true=>
    refine aa ?_;intros
    refine ay 99 (Obj p 165 [.pointer pp,.pointer g,.int .i64 (n:Int)]*(Obj q 286 (fi {t with half:=false})*1)) rfl rfl rfl ?_
    refine ah ?_
    refine aw rfl rfl rfl rfl rfl (Spec.aL pp (CT mY cU (by omega) Ex)) (fun _=>ab) ?_
    intro _
    refine ah ?_
    dsimp only
    rw[Vn (Ex (2*j+1)) vQ mR DU]
    have e:lb pl t=if pl.getD (2*j+1) 0=iw t.f1 t.f2 t.f3 then({t with half:=false,found:=(j:Int),aP:=t.seen,done:=true,end_:=if t.kind=1 then 10 else 0},false)else({t with half:=false,at_:=t.at_+1},decide (t.at_+1=4)):=by
     unfold lb;rw[if_neg h4,hj,hh];rfl
    rw[e]
    by_cases hk:pl.getD (2*j+1) 0=iw t.f1 t.f2 t.f3
    ·rw[if_pos hk,decide_eq_true hk]
     refine aa ?_;intros
     refine af rfl (Spec.pre (ug (p:=q) (e:=0) (s:={t with half:=false,found:=(j:Int),aP:=t.seen})) (aq.bS (by rfl) (U.refl _))) ?_
     intro _
     refine aq.iK ?_
     dsimp only[jS]
     by_cases bE:t.kind=1
     ·refine aa ?_;intros
      rw[if_pos bE]
      exact ae (aj rfl rfl () rfl (U.sat (aq.bS (by rfl) (ab))))
     ·refine aa ?_;intros
      rw[if_neg bE]
      exact ae (aj rfl rfl () rfl (U.sat (aq.bS (by rfl) (ab))))
    ·rw[if_neg hk,decide_eq_false hk]
     refine aa ?_;intros
     refine ae (aj rfl rfl () ?_ (U.sat (aq.bS (by rfl) (ab))))
     exact congrArg _ (decide_eq_decide.2 (by omega))
end
section
open Go.RowKit
set_option maxRecDepth 10000
attribute [local irreducible] EK EX ER EN EL ES EG an aR aU
variable {W:World} {F:SL} {X:Cx} {k:List KI} {σ:Env} {p pp g q:Option Addr} {ws cs pl:List Nat} {n np:Nat} {s:aT}
set_option maxHeartbeats 2000000 in
theorem XV (h:He n np cs pl s):Spec Tryz.prog 161 [.pointer p,.pointer q] W (aq q s*(aB p pp n cs*(aG pp pl*F))) (fun _:Unit=> .tuple #[])
  (fun _=>aq q (iX cs pl s).2*(aB p pp n (iX cs pl s).1*(aG pp pl*F))):=by
 refine Spec.of Tryz.func161 rfl Tryz.ntmps161 rfl ?_
 have ha:=h.a
 have hb:=h.b
 have jD:=h.xC
 have lG:=h.n2
 have oE:=h.next
 refine dc p (aB.open fun g=> ?_)
 simp only[lU]
 refine dc q (aq.open ?_)
 have jo:s.next=0∨s.next=1∨s.next=2∨s.next=3∨s.next=4∨s.next=5:=by omega
 rcases jo with e|e|e|e|e|e
 ·have es:iX cs pl s=(cs,tC {s with first:=cs.getD s.a 0} (cs.getD s.a 0) 1):=by unfold iX;rw[if_pos e]
  rw[es]
  refine aa ?_;intros
  refine ay 12 (Obj p 165 [.pointer pp,.pointer g,.int .i64 (n:Int)]*(Obj q 286 (fi s)*1)) rfl rfl rfl ?_
  refine ah ?_
  refine aw rfl rfl rfl rfl rfl (Spec.aL g (fM g cs s.a (by omega) (by omega))) (fun _=>ab) ?_
  intro _
  refine ah ?_
  refine bD ?_;intros
  refine aa ?_;intros
  refine af rfl (Spec.pre (F4 (p:=q) (s:={s with first:=cs.getD s.a 0}) (u:=cs.getD s.a 0) (nx:=1)) (aq.bS (by rfl) (U.refl _))) ?_
  intro _
  refine aa ?_;intros
  exact aE (aF rfl () rfl (U.sat (U.cons (U.trans (ab) (aB.shut (g:=g))))))
 ·refine aa ?_;intros
  refine af rfl (Spec.pre (Ku h (p:=p) (q:=q) (g:=g) (pp:=pp) (F:=cB g cs*F)) (aq.bS (by rfl) (ab))) ?_
  intro _
  have es:iX cs pl s=(cs,if(fv pl s).2=true then {(fv pl s).1 with next:=2}else(fv pl s).1):=by unfold iX;simp only[e];rfl
  rw[es]
  have vU:(fv pl s).1.first=s.first∧(fv pl s).1.kind=s.kind:=by
   unfold fv lb
   split
   ·exact⟨rfl,rfl⟩
   ·dsimp only
    split
    ·split<;>exact⟨rfl,rfl⟩
    ·split<;>exact⟨rfl,rfl⟩
  generalize fv pl s=L at*
  cases hL:L.2 with
  |true=>
   refine aq.iK ?_
   refine aa ?_;intros
   rw[if_pos rfl]
   exact aE (aF rfl () rfl (U.sat (aq.bS (by rfl) (U.trans (ab) (aB.shut (g:=g))))))
  |false=>
   refine aa ?_;intros
   rw[if_neg (by decide)]
   exact aE (aF rfl () rfl (U.sat (U.cons (U.trans (ab) (aB.shut (g:=g))))))
 ·have es:iX cs pl s=(cs,tC s (cs.getD s.b 0) 3):=by unfold iX;simp only[e];rfl
  rw[es]
  refine aa ?_;intros
  refine ay 10 (Obj p 165 [.pointer pp,.pointer g,.int .i64 (n:Int)]*(Obj q 286 (fi s)*1)) rfl rfl rfl ?_
  refine ah ?_
  refine aw rfl rfl rfl rfl rfl (Spec.aL g (fM g cs s.b (by omega) (by omega))) (fun _=>ab) ?_
  intro _
  refine ah ?_
  refine lp rfl rfl rfl rfl (Spec.aL q (Spec.pre (F4 (p:=q) (s:=s) (u:=cs.getD s.b 0) (nx:=3)) (aq.bS (by rfl) (U.refl _)))) ?_
  intro _
  refine ah ?_
  refine aa ?_;intros
  exact aE (aF rfl () rfl (U.sat (U.cons (U.trans (ab) (aB.shut (g:=g))))))
 ·refine aa ?_;intros
  refine af rfl (Spec.pre (Ku h (p:=p) (q:=q) (g:=g) (pp:=pp) (F:=cB g cs*F)) (aq.bS (by rfl) (ab))) ?_
  intro _
  have es:iX cs pl s=(cs,if(fv pl s).2=true then {(fv pl s).1 with next:=p9 (fv pl s).1}else(fv pl s).1):=by unfold iX;simp only[e];rfl
  rw[es]
  have vU:(fv pl s).1.first=s.first∧(fv pl s).1.kind=s.kind:=by
   unfold fv lb
   split
   ·exact⟨rfl,rfl⟩
   ·dsimp only
    split
    ·split<;>exact⟨rfl,rfl⟩
    ·split<;>exact⟨rfl,rfl⟩
  generalize fv pl s=L at*
  cases hL:L.2 with
  |true=>
   refine aa ?_;intros
   refine af rfl (Qz (by rw[vU.2];exact h.kind) (by rw[vU.1];exact h.first)) ?_
   intro _
   refine aq.iK ?_
   refine aa ?_;intros
   rw[if_pos rfl]
   exact aE (aF rfl () rfl (U.sat (aq.bS (by rfl) (U.trans (ab) (aB.shut (g:=g))))))
  |false=>
   refine aa ?_;intros
   rw[if_neg (by decide)]
   exact aE (aF rfl () rfl (U.sat (U.cons (U.trans (ab) (aB.shut (g:=g))))))
 ·have es:iX cs pl s=(cs,if cs.getD s.a 0=s.first then jS s 7 else tC {s with first:=cs.getD s.a 0} (cs.getD s.a 0) 1):=by unfold iX;simp only[e];rfl
  rw[es]
  refine aa ?_;intros
  refine kM 8 rfl (by kernel_rfl) rfl rfl ?_
  repeat(refine cD ?_)
  refine af rfl (Spec.aL g (fM g cs s.a (by omega) (by omega))) ?_
  intro _
  by_cases hu:cs.getD s.a 0=s.first
  ·rw[if_pos hu]
   refine aa ?_;intros
   refine af rfl (Spec.aL q (Spec.pre (ug (p:=q) (e:=7) (s:=s)) (aq.bS (by rfl) (U.refl _)))) ?_
   intro _
   refine aa ?_;intros
   exact ae (dm rfl () rfl (U.sat (U.cons (U.trans (ab) (aB.shut (g:=g))))))
  ·rw[if_neg hu]
   refine aa ?_;intros
   refine af rfl (Spec.pre (F4 (p:=q) (s:={s with first:=cs.getD s.a 0}) (u:=cs.getD s.a 0) (nx:=1)) (aq.bS (by rfl) (U.refl _))) ?_
   intro _
   refine aa ?_;intros
   exact aE (aF rfl () rfl (U.sat (U.cons (U.trans (ab) (aB.shut (g:=g))))))
 ·have es:iX cs pl s=if cs.getD s.a 0=s.first then(cs.set s.a (ll s.first s.id),jS {s with next:=0} 0)else(cs,{s with next:=0}):=by unfold iX;simp only[e];rfl
  rw[es]
  refine aa ?_;intros
  refine ay 99 (Obj p 165 [.pointer pp,.pointer g,.int .i64 (n:Int)]*(Obj q 286 (fi {s with next:=0})*1)) rfl rfl rfl ?_
  refine ah ?_
  refine aw rfl rfl rfl rfl rfl (ME (id:=s.id) h.first (h.link e).1 (by have:=h.v8;have:=h.j7;omega) (h.link e).2) (fun _=>ab) ?_
  intro _
  refine ah ?_
  refine aw rfl rfl rfl rfl rfl (Spec.aL g (ns g cs s.a s.first (ll s.first s.id) (by omega) (by omega))) (fun _=>ab) ?_
  intro _
  refine ah ?_
  by_cases hu:cs.getD s.a 0=s.first
  ·rw[if_pos hu,if_pos hu,decide_eq_true hu]
   refine aa ?_;intros
   refine af rfl (Spec.aL q (Spec.pre (ug (p:=q) (e:=0) (s:={s with next:=0})) (aq.bS (by rfl) (U.refl _)))) ?_
   intro _
   refine aa ?_;intros
   exact aE (aF rfl () rfl (U.sat (U.cons (U.trans (ab) (aB.shut (g:=g))))))
  ·rw[if_neg hu,if_neg hu,decide_eq_false hu]
   refine aa ?_;intros
   refine aE (aF rfl () rfl (U.sat ?_))
   have hq:∀A B C:SL,A*(B*C)=B*(A*C):=fun A B C=>by ac_rfl
   rw[hq]
   exact aq.bS (by rfl) (U.trans (ab) (aB.shut (g:=g)))
theorem vk:Spec Tryz.prog 112 [.pointer q] W (aq q s*F) (fun _:Unit=> .int .i64 (s.end_:Int)) (fun _=>aq q s*F):=by
 refine Spec.of Tryz.func112 rfl Tryz.ntmps112 rfl ?_
 refine aq.open ?_
 refine aa ?_;intros
 exact ae (aj rfl rfl () rfl (U.sat (aq.bS (by rfl) (U.refl _))))
theorem Cu:Spec Tryz.prog 114 [.pointer q] W (aq q s*F) (fun _:Unit=> .tuple #[.int .i64 s.found,ju s.aP]) (fun _=>aq q s*F):=by
 refine Spec.of Tryz.func114 rfl Tryz.ntmps114 rfl ?_
 refine aq.open ?_
 refine aa ?_;intros
 refine ay 9 (Obj q 286 (fi s)*1) rfl rfl rfl ?_
 refine ah ?_
 refine bD ?_;intros
 refine aa ?_;intros
 refine ae (bu (rs:=[.tmp 2,.cell 3 117]) (v:= .int .i64 s.found) (u:=ju s.aP) (vs:=[]) rfl ⟨rfl,⟨_,rfl,aX.agg rfl⟩,trivial⟩ () rfl (U.sat ?_))
 exact U.trans U.drop (aq.bS (by rfl) (U.refl _))
end
section
open Go.RowKit
set_option maxRecDepth 10000
attribute [local irreducible] EK EX ER EN EL ES EG an aR aU
variable {W:World} {F:SL} {X:Cx} {k:List KI} {σ:Env} {p pp g q:Option Addr} {ws cs pl:List Nat} {n np:Nat} {s:aT}
def nr (u:Nat)(id:Int):Nat:=nD u (fj u id).toNat 0
def rj (s:aT):Nat:=if s.second=true then s.b else s.a
def jC (s:aT):aT:=if s.second=true then {jS s 0 with second:=true}else {s with second:=true}
def iF (cs:List Nat)(s:aT):List Nat×aT:=
 if s.next=24 then
  if cs.getD (rj s) 0=s.word then(cs.set (rj s) (nr s.word s.id),jC {s with next:=23})else(cs,{s with next:=23})
 else if 0≤fj (cs.getD (rj s) 0) s.id∧0≤s.id then(cs,{s with word:=cs.getD (rj s) 0,next:=24})
 else(cs,jC {s with word:=cs.getD (rj s) 0})
structure Oy (n:Nat)(cs:List Nat)(s:aT):Prop where
 xC:cs.length=n+1
 n2:n≤1024
 cw:∀j,cs.getD j 0<18446744073709551616
 a:s.a<n
 b:s.b<n
 next:s.next=23∨s.next=24
 word:s.word<18446744073709551616
 out:s.next=24→0≤fj s.word s.id
 done:s.done=false
theorem Ch {u:Nat}{id:Int}(hu:u<18446744073709551616)(h1:0≤fj u id):Spec Tryz.prog 195 [.int .u64 (u:Int),.int .i64 id] W F (fun _:Unit=> .int .u64 (nr u id:Int)) (fun _=>F):=by
 refine Spec.of Tryz.func195 rfl Tryz.ntmps195 rfl ?_
 have hw:=My u id
 obtain⟨i,hi⟩:∃i:Nat,fj u id=(i:Int):=⟨(fj u id).toNat,by omega⟩
 have gV:nr u id=nD u i 0:=by unfold nr;rw[hi];rfl
 refine aa ?_;intros
 refine af rfl (vc _ hu) ?_
 intro _
 rw[hi]
 refine aa ?_;intros
 refine af rfl (Me (v:=0) hu (by omega) (by decide)) ?_
 intro _
 refine aa ?_;intros
 exact ae (aj rfl rfl () (by rw[gV]) (U.sat U.last))
set_option maxHeartbeats 2000000 in
theorem RB (h:Oy n cs s):Spec Tryz.prog 158 [.pointer p,.pointer q] W (aq q s*(aB p pp n cs*F)) (fun _:Unit=> .tuple #[])
  (fun _=>aq q (iF cs s).2*(aB p pp n (iF cs s).1*F)):=by
 refine Spec.of Tryz.func158 rfl Tryz.ntmps158 rfl ?_
 have ha:=h.a
 have hb:=h.b
 have jD:=h.xC
 have lG:=h.n2
 have gx:=h.word
 refine dc p (aB.open fun g=> ?_)
 simp only[lU]
 refine dc q (aq.open ?_)
 cases pB:s.second with
 |true=>
  have pj:rj s=s.b:=by unfold rj;rw[pB];rfl
  rcases h.next with e|e
  ·refine aa ?_;intros
   refine af rfl (Spec.aL g (fM g cs s.b (by omega) (by omega))) ?_
   intro _
   have hu:=h.cw s.b
   obtain⟨t,ht⟩:∃t:aT,t={s with word:=cs.getD s.b 0}:=⟨_,rfl⟩
   have gF:t.word=cs.getD s.b 0:=by rw[ht]
   have jH:t.id=s.id:=by rw[ht]
   have EE:t.second=s.second:=by rw[ht]
   refine aa ?_;intros
   refine iQ (G:=Obj q 286 (fi t)*(cB g cs*(Obj p 165 [.pointer pp,.pointer g,.int .i64 (n:Int)]*F))) (by rw[ht];dsimp only[fi];rw[pB];exact ab) ?_
   refine ay 99 (Obj q 286 (fi t)*1) rfl rfl rfl ?_
   refine ah ?_
   have EF:t.word<18446744073709551616:=by rw[gF];exact hu
   refine aw rfl rfl rfl rfl rfl (vc t.id EF) (fun _=>ab) ?_
   intro _
   have rI:t.second=true:=by rw[EE,pB]
   by_cases hp:0≤fj t.word t.id
   ·by_cases hq:0≤t.id
    ·have hE:iF cs s=(cs,{t with next:=24}):=by unfold iF;rw[if_neg (show ¬s.next=24 by omega),pj,←gF,←jH,if_pos ⟨hp,hq⟩,ht]
     rw[hE]
     refine ah ?_
     refine aa ?_;intros
     exact ae (dm rfl () rfl (U.sat (aq.bS (by rfl) (U.trans (ab) (aB.shut (g:=g))))))
    ·have hE:iF cs s=(cs,jC t):=by unfold iF;rw[if_neg (show ¬s.next=24 by omega),pj,←gF,←jH,if_neg (fun z=>hq z.2),ht]
     rw[hE]
     refine ah ?_
     refine aa ?_;intros
     refine vi (by rw[rI];rfl) ?_
     refine aa ?_;intros
     refine af rfl (Spec.aL q (Spec.pre (ug (p:=q) (e:=0) (s:=t)) (aq.bS (by rfl) (U.refl _)))) ?_
     intro _
     refine aq.iK ?_
     dsimp only[jS]
     refine aa ?_;intros
     have eg:jC t={jS t 0 with second:=true}:=by unfold jC;rw[if_pos rI]
     rw[eg]
     exact aE (aF rfl () rfl (U.sat (aq.bS (by rfl) (U.trans (ab) (aB.shut (g:=g))))))
   ·have hE:iF cs s=(cs,jC t):=by unfold iF;rw[if_neg (show ¬s.next=24 by omega),pj,←gF,←jH,if_neg (fun z=>hp z.1),ht]
    rw[hE]
    refine ah ?_
    refine aa ?_;intros
    refine vi (by rw[rI];rfl) ?_
    refine aa ?_;intros
    refine af rfl (Spec.aL q (Spec.pre (ug (p:=q) (e:=0) (s:=t)) (aq.bS (by rfl) (U.refl _)))) ?_
    intro _
    refine aq.iK ?_
    dsimp only[jS]
    refine aa ?_;intros
    have eg:jC t={jS t 0 with second:=true}:=by unfold jC;rw[if_pos rI]
    rw[eg]
    exact aE (aF rfl () rfl (U.sat (aq.bS (by rfl) (U.trans (ab) (aB.shut (g:=g))))))
  ·refine aa ?_;intros
   refine ay 99 (Obj p 165 [.pointer pp,.pointer g,.int .i64 (n:Int)]*(Obj q 286 (fi {s with next:=23,second:=true})*1)) rfl rfl rfl ?_
   refine ah ?_
   refine aw rfl rfl rfl rfl rfl (Ch (id:=s.id) gx (h.out e)) (fun _=>ab) ?_
   intro _
   refine ah ?_
   refine aw rfl rfl rfl rfl rfl (Spec.aL g (ns g cs s.b s.word (nr s.word s.id) (by omega) (by omega))) (fun _=>ab) ?_
   intro _
   refine ah ?_
   by_cases hu:cs.getD s.b 0=s.word
   ·have hE:iF cs s=(cs.set s.b (nr s.word s.id),jC {s with next:=23}):=by unfold iF;rw[if_pos e,pj,if_pos hu]
    rw[hE,if_pos hu,decide_eq_true hu]
    refine aa ?_;intros
    refine af rfl (Spec.aL q (Spec.pre (ug (p:=q) (e:=0) (s:={s with next:=23})) (aq.bS (by unfold kI;rw[pB];rfl) (U.refl _)))) ?_
    intro _
    refine aq.iK ?_
    dsimp only[jS]
    refine aa ?_;intros
    have eg:jC {s with next:=23}={jS {s with next:=23} 0 with second:=true}:=by unfold jC;rw[if_pos pB]
    rw[eg]
    exact aE (aF rfl () rfl (U.sat (aq.bS (by rfl) (U.trans (ab) (aB.shut (g:=g))))))
   ·have hE:iF cs s=(cs,{s with next:=23}):=by unfold iF;rw[if_pos e,pj,if_neg hu]
    rw[hE,if_neg hu,decide_eq_false hu]
    refine aa ?_;intros
    refine ae (dm rfl () rfl (U.sat ?_))
    rw[show ∀A B C:SL,A*(B*C)=B*(A*C)from fun A B C=>by ac_rfl]
    exact aq.bS (by unfold kI;dsimp only;rw[pB];rfl) (U.trans (ab) (aB.shut (g:=g)))
 |false=>
  have pj:rj s=s.a:=by unfold rj;rw[pB];rfl
  rcases h.next with e|e
  ·refine aa ?_;intros
   refine af rfl (Spec.aL g (fM g cs s.a (by omega) (by omega))) ?_
   intro _
   have hu:=h.cw s.a
   obtain⟨t,ht⟩:∃t:aT,t={s with word:=cs.getD s.a 0}:=⟨_,rfl⟩
   have gF:t.word=cs.getD s.a 0:=by rw[ht]
   have jH:t.id=s.id:=by rw[ht]
   have EE:t.second=s.second:=by rw[ht]
   refine aa ?_;intros
   refine iQ (G:=Obj q 286 (fi t)*(cB g cs*(Obj p 165 [.pointer pp,.pointer g,.int .i64 (n:Int)]*F))) (by rw[ht];dsimp only[fi];rw[pB];exact ab) ?_
   refine ay 99 (Obj q 286 (fi t)*1) rfl rfl rfl ?_
   refine ah ?_
   have EF:t.word<18446744073709551616:=by rw[gF];exact hu
   refine aw rfl rfl rfl rfl rfl (vc t.id EF) (fun _=>ab) ?_
   intro _
   have rI:t.second=false:=by rw[EE,pB]
   by_cases hp:0≤fj t.word t.id
   ·by_cases hq:0≤t.id
    ·have hE:iF cs s=(cs,{t with next:=24}):=by unfold iF;rw[if_neg (show ¬s.next=24 by omega),pj,←gF,←jH,if_pos ⟨hp,hq⟩,ht]
     rw[hE]
     refine ah ?_
     refine aa ?_;intros
     exact ae (dm rfl () rfl (U.sat (aq.bS (by rfl) (U.trans (ab) (aB.shut (g:=g))))))
    ·have hE:iF cs s=(cs,jC t):=by unfold iF;rw[if_neg (show ¬s.next=24 by omega),pj,←gF,←jH,if_neg (fun z=>hq z.2),ht]
     rw[hE]
     refine ah ?_
     refine aa ?_;intros
     refine vh (by rw[rI];rfl) ?_
     refine aa ?_;intros
     have eg:jC t={t with second:=true}:=by unfold jC;rw[if_neg (by rw[rI];decide)]
     rw[eg]
     exact aE (aF rfl () rfl (U.sat (aq.bS (by rfl) (U.trans (ab) (aB.shut (g:=g))))))
   ·have hE:iF cs s=(cs,jC t):=by unfold iF;rw[if_neg (show ¬s.next=24 by omega),pj,←gF,←jH,if_neg (fun z=>hp z.1),ht]
    rw[hE]
    refine ah ?_
    refine aa ?_;intros
    refine vh (by rw[rI];rfl) ?_
    refine aa ?_;intros
    have eg:jC t={t with second:=true}:=by unfold jC;rw[if_neg (by rw[rI];decide)]
    rw[eg]
    exact aE (aF rfl () rfl (U.sat (aq.bS (by rfl) (U.trans (ab) (aB.shut (g:=g))))))
  ·refine aa ?_;intros
   refine ay 99 (Obj p 165 [.pointer pp,.pointer g,.int .i64 (n:Int)]*(Obj q 286 (fi {s with next:=23,second:=false})*1)) rfl rfl rfl ?_
   refine ah ?_
   refine aw rfl rfl rfl rfl rfl (Ch (id:=s.id) gx (h.out e)) (fun _=>ab) ?_
   intro _
   refine ah ?_
   refine aw rfl rfl rfl rfl rfl (Spec.aL g (ns g cs s.a s.word (nr s.word s.id) (by omega) (by omega))) (fun _=>ab) ?_
   intro _
   refine ah ?_
   by_cases hu:cs.getD s.a 0=s.word
   ·have hE:iF cs s=(cs.set s.a (nr s.word s.id),jC {s with next:=23}):=by unfold iF;rw[if_pos e,pj,if_pos hu]
    rw[hE,if_pos hu,decide_eq_true hu]
    refine aa ?_;intros
    have eg:jC {s with next:=23}={{s with next:=23}with second:=true}:=by unfold jC;rw[if_neg (by rw[pB];decide)]
    rw[eg]
    exact aE (aF rfl () rfl (U.sat (aq.bS (by rfl) (U.trans (ab) (aB.shut (g:=g))))))
   ·have hE:iF cs s=(cs,{s with next:=23}):=by unfold iF;rw[if_pos e,pj,if_neg hu]
    rw[hE,if_neg hu,decide_eq_false hu]
    refine aa ?_;intros
    refine ae (dm rfl () rfl (U.sat ?_))
    rw[show ∀A B C:SL,A*(B*C)=B*(A*C)from fun A B C=>by ac_rfl]
    exact aq.bS (by unfold kI;dsimp only;rw[pB];rfl) (U.trans (ab) (aB.shut (g:=g)))
end
section
open Go.RowKit
set_option maxRecDepth 10000
attribute [local irreducible] EK EX ER EN EL ES EG an aR aU
variable {W:World} {F:SL} {X:Cx} {k:List KI} {σ:Env} {p pp g q:Option Addr} {ws cs pl:List Nat} {n np:Nat} {s:aT} {m:fo}
structure fo.Ok (m:fo):Prop where
 phase:m.phase<4
 id:m.id<4096
 fr:m.fr<1024
 to:m.to<1024
 version:m.version<65536
 av:m.av≤16384
def mu (u:Nat):fo:=⟨u%4,u/4%4096,u/16384%1024,u/16777216%1024,u/17179869184%65536,u/1125899906842624⟩
def kC (m:fo):Nat:=m.phase+m.id*4+m.fr*16384+m.to*16777216+m.version*17179869184+m.av%16384*1125899906842624
abbrev Bx (m:fo):Value:= .agg #[.int .i64 (m.phase:Int),.int .i64 (m.id:Int),.int .i64 (m.fr:Int),.int .i64 (m.to:Int),.int .i64 (m.version:Int),.int .i64 (m.av:Int)]
theorem V5 {u:Nat}(h:u<18446744073709551616):(mu u).Ok:=by
 unfold mu
 exact⟨by dsimp only;omega,by dsimp only;omega,by dsimp only;omega,by dsimp only;omega,by dsimp only;omega,by dsimp only;omega⟩
theorem Mp {u:Nat}(hu:u<18446744073709551616):Spec Tryz.prog 199 [.int .u64 (u:Int)] W F (fun _:Unit=> .int .i64 ((u/281474976710656:Nat):Int)) (fun _=>F):=by
 refine Spec.of Tryz.func199 rfl Tryz.ntmps199 rfl ?_
 refine aa ?_;intros
 exact ae (aj rfl rfl () (by rw[show(u:Int)/2^Int.toNat 48=((u/281474976710656:Nat):Int)from nk u 48,mr (by omega)]) (U.sat U.last))
theorem V9 {u:Nat}(hu:u<18446744073709551616):(Value.agg #[.int .i64 (IntKind.i64.wrap (bits .and .u64 (u:Int) 3)),.int .i64 (IntKind.i64.wrap (bits .and .u64 ((u:Int)/2^Int.toNat 2) 4095)),.int .i64 (IntKind.i64.wrap (bits .and .u64 ((u:Int)/2^Int.toNat 14) 1023)),
  .int .i64 (IntKind.i64.wrap (bits .and .u64 ((u:Int)/2^Int.toNat 24) 1023)),.int .i64 (IntKind.i64.wrap (bits .and .u64 ((u:Int)/2^Int.toNat 34) 65535)),.int .i64 (IntKind.i64.wrap ((u:Int)/2^Int.toNat 50))])=Bx (mu u):=by
 rw[show bits .and .u64 (u:Int) 3=((u%2^2:Nat):Int)from rZ 2 hu (by decide),show(u:Int)/2^Int.toNat 2=((u/2^2:Nat):Int)from nk u 2,show(u:Int)/2^Int.toNat 14=((u/2^14:Nat):Int)from nk u 14,show(u:Int)/2^Int.toNat 24=((u/2^24:Nat):Int)from nk u 24,
  show(u:Int)/2^Int.toNat 34=((u/2^34:Nat):Int)from nk u 34,show(u:Int)/2^Int.toNat 50=((u/2^50:Nat):Int)from nk u 50,
  show bits .and .u64 ((u/2^2:Nat):Int) 4095=((u/2^2%2^12:Nat):Int)from rZ 12 (by omega) (by decide),show bits .and .u64 ((u/2^14:Nat):Int) 1023=((u/2^14%2^10:Nat):Int)from rZ 10 (by omega) (by decide),
  show bits .and .u64 ((u/2^24:Nat):Int) 1023=((u/2^24%2^10:Nat):Int)from rZ 10 (by omega) (by decide),show bits .and .u64 ((u/2^34:Nat):Int) 65535=((u/2^34%2^16:Nat):Int)from rZ 16 (by omega) (by decide),
  mr (by omega),mr (by omega),mr (by omega),mr (by omega),mr (by omega),mr (by omega)]
 rfl
theorem yO {u:Nat}(hu:u<18446744073709551616):Spec Tryz.prog 202 [.int .u64 (u:Int)] W F (fun _:Unit=>Bx (mu u)) (fun _=>F):=by
 refine Spec.of Tryz.func202 rfl Tryz.ntmps202 rfl ?_
 refine aa ?_;intros
 exact ae (lQ (rv:= .cell 2 282) rfl ⟨_,rfl,aX.agg rfl⟩ () (V9 hu) (U.sat U.last))
theorem V4 {m:fo}(h:m.Ok):bits .or .u64 (bits .or .u64 (bits .or .u64 (bits .or .u64 (bits .or .u64 (m.phase:Int) (IntKind.u64.wrap ((m.id:Int)*2^Int.toNat 2))) (IntKind.u64.wrap ((m.fr:Int)*2^Int.toNat 14))) (IntKind.u64.wrap ((m.to:Int)*2^Int.toNat 24))) (IntKind.u64.wrap ((m.version:Int)*2^Int.toNat 34))) (IntKind.u64.wrap ((m.av:Int)*2^Int.toNat 50))=(kC m:Int):=by
 obtain⟨h1,h2,h3,h4,h5,h6⟩:=h
 rw[show IntKind.u64.wrap ((m.id:Int)*2^Int.toNat 2)=((m.id*2^2:Nat):Int)from oQ m.id 2 (by omega),show IntKind.u64.wrap ((m.fr:Int)*2^Int.toNat 14)=((m.fr*2^14:Nat):Int)from oQ m.fr 14 (by omega),
  show IntKind.u64.wrap ((m.to:Int)*2^Int.toNat 24)=((m.to*2^24:Nat):Int)from oQ m.to 24 (by omega),show IntKind.u64.wrap ((m.version:Int)*2^Int.toNat 34)=((m.version*2^34:Nat):Int)from oQ m.version 34 (by omega),
  show IntKind.u64.wrap ((m.av:Int)*2^Int.toNat 50)=((m.av%16384*2^50:Nat):Int)by rw[IntKind.wrap_u64,show(2:Int)^Int.toNat 50=1125899906842624 from rfl];omega,
  tD (by omega) (by omega),tD (by omega) (by omega),tD (by omega) (by omega),tD (by omega) (by omega),tD (by omega) (by omega)]
 rfl
theorem yN (h:m.Ok):Spec Tryz.prog 208 [Bx m] W F (fun _:Unit=> .int .u64 (kC m:Int)) (fun _=>F):=by
 refine Spec.of Tryz.func208 rfl Tryz.ntmps208 rfl ?_
 have h':=h
 obtain⟨h1,h2,h3,h4,h5,h6⟩:=h'
 refine aa ?_;intros
 exact ae (aj rfl rfl () (by rw[V4 h]) (U.sat U.last))
theorem V1 (h:m.av<16384):Spec Tryz.prog 242 [Bx m] W F (fun _:Unit=> .int .u64 (kC ⟨0,0,0,0,0,m.av+1⟩:Int)) (fun _=>F):=by
 refine Spec.of Tryz.func242 rfl Tryz.ntmps242 rfl ?_
 refine aa ?_;intros
 refine af rfl (yN (m:=⟨0,0,0,0,0,m.av+1⟩) ⟨by dsimp only;omega,by dsimp only;omega,by dsimp only;omega,by dsimp only;omega,by dsimp only;omega,by dsimp only;omega⟩) ?_
 intro _
 refine aa ?_;intros
 exact ae (aj rfl rfl () rfl (U.sat U.last))
def La (pl:List Nat)(n id bucket:Nat):Nat:=if(iN (pl.getD (2*id+1) 0) n).1=bucket then(iN (pl.getD (2*id+1) 0) n).2 else(iN (pl.getD (2*id+1) 0) n).1
theorem WX {id bk:Nat}(hf:fV (n:Int)=true)(mY:pl.length=2*np)(cU:np≤3072)(hid:id<np)(hw:∀j,pl.getD j 0<18446744073709551616):Spec Tryz.prog 203 [.pointer p,.int .i64 (id:Int),.int .i64 (bk:Int)] W (Obj p 165 [.pointer pp,.pointer g,.int .i64 (n:Int)]*(aG pp pl*F))
  (fun _:Unit=> .int .i64 (La pl n id bk:Int)) (fun _=>Obj p 165 [.pointer pp,.pointer g,.int .i64 (n:Int)]*(aG pp pl*F)):=by
 refine Spec.of Tryz.func203 rfl Tryz.ntmps203 rfl ?_
 refine aa ?_;intros
 refine ay 99 (Obj p 165 [.pointer pp,.pointer g,.int .i64 (n:Int)]*1) rfl rfl rfl ?_
 refine ah ?_
 refine aw rfl rfl rfl rfl rfl (Spec.aL pp (CT mY cU hid hw)) (fun _=>ab) ?_
 intro _
 refine ah ?_
 have hk:=hw (2*id+1)
 unfold La
 generalize pl.getD (2*id+1) 0=key at*
 have qz:rV ((key/281474976710656:Nat):Int) (key/65536%4294967296) (key%65536) (n:Int)=(((iN key n).1:Int),((iN key n).2:Int)):=by
  unfold rV yJ
  rw[if_pos hf,show iw (((key/281474976710656:Nat):Int)%65536).toNat (key/65536%4294967296) (key%65536)=key by unfold iw;omega]
  rfl
 refine aw rfl rfl rfl rfl rfl (Hq _ _ (by omega) (by omega)) (fun _=>ab) ?_
 intro _
 rw[qz]
 refine ah ?_
 by_cases hb:(iN key n).1=bk
 ·refine aa ?_;intros
  rw[if_pos hb]
  exact ae (aj rfl rfl () rfl (U.sat (ab)))
 ·refine aa ?_;intros
  rw[if_neg hb]
  exact ae (aj rfl rfl () rfl (U.sat (ab)))
def S0 (s:aT)(id fr to u:Nat):aT:={s with m:=⟨1,id,fr,to,u/281474976710656,(mu s.still).av⟩,next:=12}
theorem S3 {id fr to u:Nat}(hu:u<18446744073709551616)(hs:s.still<18446744073709551616):Spec Tryz.prog 206 [.pointer q,.int .i64 (id:Int),.int .i64 (fr:Int),.int .i64 (to:Int),.int .u64 (u:Int)] W (aq q s*F) (fun _:Unit=> .tuple #[]) (fun _=>aq q (S0 s id fr to u)*F):=by
 refine Spec.of Tryz.func206 rfl Tryz.ntmps206 rfl ?_
 refine aq.open ?_
 refine aa ?_;intros
 refine ay 15 (Obj q 286 (fi s)*1) rfl rfl rfl ?_
 refine ah ?_
 refine aw rfl rfl rfl rfl rfl (Mp hu) (fun _=>ab) ?_
 intro _
 refine ah ?_
 refine aw rfl rfl rfl rfl rfl (yO hs) (fun _=>ab) ?_
 intro _
 refine ah ?_
 refine bD ?_;intros
 refine aa ?_;intros
 exact aE (aF rfl () rfl (U.sat (aq.bS (by rfl) (U.refl _))))
def u5 (s:aT)(u yes no:Nat):aT:={s with word:=u,next:=if 0≤fj u (s.m.id:Int)then yes else no}
theorem L5 {u yes no:Nat}(hu:u<18446744073709551616):Spec Tryz.prog 200 [.pointer q,.int .u64 (u:Int),.int .i64 (yes:Int),.int .i64 (no:Int)] W (aq q s*F) (fun _:Unit=> .tuple #[]) (fun _=>aq q (u5 s u yes no)*F):=by
 refine Spec.of Tryz.func200 rfl Tryz.ntmps200 rfl ?_
 refine aq.open ?_
 refine aa ?_;intros
 refine af rfl (vc _ hu) ?_
 intro _
 by_cases hw:0≤fj u (s.m.id:Int)
 ·refine aa ?_;intros
  have e:u5 s u yes no={s with word:=u,next:=yes}:=by unfold u5;rw[if_pos hw]
  rw[e]
  exact aE (aF rfl () rfl (U.sat (aq.bS (by rfl) (U.refl _))))
 ·refine aa ?_;intros
  have e:u5 s u yes no={s with word:=u,next:=no}:=by unfold u5;rw[if_neg hw]
  rw[e]
  exact aE (aF rfl () rfl (U.sat (aq.bS (by rfl) (U.refl _))))
end
section
open Go.RowKit
set_option maxRecDepth 10000
attribute [local irreducible] EK EX ER EN EL ES EG an aR aU
variable {W:World} {F:SL} {X:Cx} {k:List KI} {σ:Env} {p pp g q:Option Addr} {ws cs pl:List Nat} {n np:Nat} {s:aT} {m:fo}
abbrev dL (p pp g:Option Addr)(n:Nat):SL:=Obj p 165 [.pointer pp,.pointer g,.int .i64 (n:Int)]
abbrev ij (m:fo):List Value:=[.int .i64 (m.phase:Int),.int .i64 (m.id:Int),.int .i64 (m.fr:Int),.int .i64 (m.to:Int),.int .i64 (m.version:Int),.int .i64 (m.av:Int)]
theorem V8 {a b:fo}:(!@decide (ij a=ij b) (Classical.propDecidable _))= !decide (a=b):=by
 obtain⟨a1,a2,a3,a4,a5,a6⟩:=a
 obtain⟨b1,b2,b3,b4,b5,b6⟩:=b
 congr 1
 rw[decide_eq_decide]
 simp only[ij,List.cons.injEq,Value.int.injEq,fo.mk.injEq,and_true,true_and,Int.natCast_inj]
def Dq (cs:List Nat)(n:Nat)(s:aT):aT:=
 if(mu (cs.getD n 0)).phase=0∨{mu (cs.getD n 0)with phase:=s.m.phase}≠s.m then {s with next:=0}
 else {s with m:={s.m with phase:=(mu (cs.getD n 0)).phase},next:=if(mu (cs.getD n 0)).phase=1 then 14 else if(mu (cs.getD n 0)).phase=2 then 17 else 19}
set_option maxHeartbeats 1000000 in
theorem Sb (jD:cs.length=n+1)(lG:n≤1024)(hw:∀j,cs.getD j 0<18446744073709551616):Spec Tryz.prog 198 [.pointer p,.pointer q] W (aq q s*(dL p pp g n*(cB g cs*F))) (fun _:Unit=> .tuple #[])
  (fun _=>aq q (Dq cs n s)*(dL p pp g n*(cB g cs*F))):=by
 refine Spec.of Tryz.func198 rfl Tryz.ntmps198 rfl ?_
 have uH:=V5 (hw n)
 have gV:=hw n
 refine pS ?_
 refine kh (γ:=Option Addr) (fun _=>True) (fun x=>[(0,.pointer p),(1,.pointer q),(4,.pointer x)]) (fun x=>Obj x 282 (ij (mu (cs.getD n 0)))*(aq q s*(dL p pp g n*(cB g cs*F)))) ?_ ?_
 ·refine aa ?_;intros
  refine ay 11 (dL p pp g n*1) rfl rfl rfl ?_
  refine ah ?_
  refine qS (i:=8) (j:=10) (su rfl rfl rfl rfl (Spec.aL g (fM g cs n (by omega) (by omega))) (fun _=>ab) ?_) (tO rfl rfl (sF rfl) rfl (fun _=>ab) ?_)
  ·intro _
   refine qS (i:=9) (j:=10) (su rfl rfl rfl rfl (yO gV) (fun _=>ab) ?_) (tO rfl rfl (sF rfl) rfl (fun _=>ab) ?_)
   ·intro _
    refine bD ?_;intros
    rename_i x
    refine aa ?_;intros
    exact dI x trivial ⟨rfl,rfl,rfl,trivial⟩ (U.sat (ab))
   ·intro x
    refine aw rfl rfl rfl rfl rfl (yO gV) (fun _=>ab) ?_
    intro _
    refine bD ?_;intros
    refine aa ?_;intros
    exact dI x trivial ⟨rfl,rfl,rfl,trivial⟩ (U.sat (ab))
  ·intro x
   refine aw rfl rfl rfl rfl rfl (Spec.aL g (fM g cs n (by omega) (by omega))) (fun _=>ab) ?_
   intro _
   refine aw rfl rfl rfl rfl rfl (yO gV) (fun _=>ab) ?_
   intro _
   refine bD ?_;intros
   refine aa ?_;intros
   exact dI x trivial ⟨rfl,rfl,rfl,trivial⟩ (U.sat (ab))
 intro x _
 unfold Dq
 generalize mu (cs.getD n 0)=m at*
 refine dc q (aq.open ?_)
 by_cases hp:m.phase=0
 ·refine aa ?_;intros
  refine ay 99 1 rfl rfl rfl ?_
  refine ah ?_
  refine aa ?_;intros
  rw[if_pos (.inl hp)]
  exact ae (dm rfl () rfl (U.sat (aq.bS (by rfl) (ab))))
 ·refine aa ?_;intros
  refine ay 99 (Obj x 282 (ij {m with phase:=s.m.phase})*(Obj q 286 (fi s)*1)) rfl rfl rfl ?_
  refine ah ?_
  rw[V8]
  by_cases hm:{m with phase:=s.m.phase}=s.m
  ·rw[if_neg (fun e=>e.elim hp (fun e=>e hm)),decide_eq_true hm]
   by_cases h1:m.phase=1
   ·refine aa ?_;intros
    rw[if_pos h1]
    exact aE (aF rfl () rfl (U.sat (aq.bS (by rfl) (ab))))
   ·by_cases h2:m.phase=2
    ·refine aa ?_;intros
     rw[if_neg h1,if_pos h2]
     exact aE (aF rfl () rfl (U.sat (aq.bS (by rfl) (ab))))
    ·refine aa ?_;intros
     rw[if_neg h1,if_neg h2]
     exact aE (aF rfl () rfl (U.sat (aq.bS (by rfl) (ab))))
  ·rw[if_pos (.inr hm),decide_eq_false hm]
   refine aa ?_;intros
   exact ae (dm rfl () rfl (U.sat (aq.bS (by rfl) (ab))))
end
end Go.Proofs.YtfkngchldmfpfaaGreatDoor
