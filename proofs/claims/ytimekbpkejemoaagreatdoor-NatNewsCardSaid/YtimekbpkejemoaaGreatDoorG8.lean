/-
  Joined by a program (wip/bundle2.py).
-/
import Derived.Test.YtimekbpkejemoaaGreatDoorG4
import Derived.Test.YtimekbpkejemoaaGreatDoorG7
set_option linter.unusedVariables false
set_option linter.unusedSimpArgs false
namespace Go.Proofs.YtimekbpkejemoaaGreatDoor
section
open Go.RowKit
set_option maxRecDepth 10000
attribute [local irreducible] EK EX ER EN EL ES EG av aV aY
variable {W:World} {F:SL} {X:Cx} {k:List KI} {σ:Env} {p g:Option Addr} {ws:List Nat}
abbrev hJ (w:br):Value:= .agg #[.int .i64 (w.st:Int),.int .i64 (w.gen:Int),.int .i64 (w.tr:Int),.int .i64 (w.sn:Int)]
theorem ur (a b:Int):Spec Tryz.prog 208 [.int .i64 a,.int .i64 b] W F (fun _:Unit=> .bool (decide (0≤a∧a≤b))) (fun _=>F):=by
 refine Spec.of Tryz.func208 rfl Tryz.ntmps208 rfl ?_
 by_cases h1:0≤a
 ·by_cases h2:a≤b
  ·repeat first|refine aa ?_ |intro
   exact ae (ar rfl rfl () (by rw[decide_eq_true ⟨h1,h2⟩]) (U.sat (U.refl _)))
  ·repeat first|refine aa ?_ |intro
   exact ae (ar rfl rfl () (by rw[decide_eq_false (fun e=>h2 e.2)]) (U.sat (U.refl _)))
 ·repeat first|refine aa ?_ |intro
  exact ae (ar rfl rfl () (by rw[decide_eq_false (fun e=>h1 e.1)]) (U.sat (U.refl _)))
theorem GP {w:br}(h:w.ok):Spec Tryz.prog 260 [hJ w] W F (fun _:Unit=> .bool true) (fun _=>F):=by
 obtain⟨h1,h2,h3,h4⟩:=h
 refine Spec.of Tryz.func260 rfl Tryz.ntmps260 rfl ?_
 repeat first|refine aa ?_ |intro
 refine af rfl (ur _ _) ?_
 intro _
 rw[decide_eq_true ⟨by omega,by omega⟩]
 repeat first|refine aa ?_ |intro
 refine af rfl (ur _ _) ?_
 intro _
 rw[decide_eq_true (p:=0≤(w.gen:Int)∧(w.gen:Int)≤65535) ⟨by omega,by omega⟩]
 repeat first|refine aa ?_ |intro
 refine af rfl (ur _ _) ?_
 intro _
 rw[decide_eq_true (p:=0≤(w.tr:Int)∧(w.tr:Int)≤7) ⟨by omega,by omega⟩]
 repeat first|refine aa ?_ |intro
 refine af rfl (ur _ _) ?_
 intro _
 rw[decide_eq_true (p:=0≤(w.sn:Int)∧(w.sn:Int)≤4294967295) ⟨by omega,by omega⟩]
 repeat first|refine aa ?_ |intro
 exact ae (ar rfl rfl () rfl (U.sat U.last))
theorem QL {w:br}(h:w.ok):bits .or .u64 (bits .or .u64 (bits .or .u64 (w.st:Int) (IntKind.u64.wrap ((w.tr:Int)*2^Int.toNat 8))) (IntKind.u64.wrap ((w.gen:Int)*2^Int.toNat 16))) (IntKind.u64.wrap ((w.sn:Int)*2^Int.toNat 32))=(w.num:Int):=by
 obtain⟨h1,h2,h3,h4⟩:=h
 rw[show IntKind.u64.wrap ((w.tr:Int)*2^Int.toNat 8)=((w.tr*2^8:Nat):Int)from lE w.tr 8 (by omega),show IntKind.u64.wrap ((w.gen:Int)*2^Int.toNat 16)=((w.gen*2^16:Nat):Int)from lE w.gen 16 (by omega),
  show IntKind.u64.wrap ((w.sn:Int)*2^Int.toNat 32)=((w.sn*2^32:Nat):Int)from lE w.sn 32 (by omega),pL (by omega) (by omega),pL (by omega) (by omega),pL (by omega) (by omega)]
 rfl
theorem Sz {n:Nat}(hn:n<18446744073709551616):(Value.agg #[.int .i64 (IntKind.i64.wrap (bits .and .u64 (n:Int) 3)),.int .i64 (IntKind.i64.wrap (bits .and .u64 ((n:Int)/2^Int.toNat 16) 65535)),.int .i64 (IntKind.i64.wrap (bits .and .u64 ((n:Int)/2^Int.toNat 8) 7)),.int .i64 (IntKind.i64.wrap ((n:Int)/2^Int.toNat 32))])=hJ (br.of n):=by
 rw[show bits .and .u64 (n:Int) 3=((n%2^2:Nat):Int)from og 2 hn (by decide),show(n:Int)/2^Int.toNat 16=((n/2^16:Nat):Int)from ky n 16,show(n:Int)/2^Int.toNat 8=((n/2^8:Nat):Int)from ky n 8,show(n:Int)/2^Int.toNat 32=((n/2^32:Nat):Int)from ky n 32,
  show bits .and .u64 ((n/2^16:Nat):Int) 65535=((n/2^16%2^16:Nat):Int)from og 16 (by omega) (by decide),show bits .and .u64 ((n/2^8:Nat):Int) 7=((n/2^8%2^3:Nat):Int)from og 3 (by omega) (by decide),
  jZ (by omega),jZ (by omega),jZ (by omega),jZ (by omega)]
 rfl
theorem Gd {w:br}(h:w.ok):Spec Tryz.prog 201 [hJ w] W F (fun _:Unit=> .int .u64 (w.num:Int)) (fun _=>F):=by
 refine Spec.of Tryz.func201 rfl Tryz.ntmps201 rfl ?_
 have h':=h
 obtain⟨h1,h2,h3,h4⟩:=h'
 repeat first|refine aa ?_ |intro
 exact ae (ar rfl rfl () (by rw[QL h]) (U.sat U.last))
theorem Kl {n:Nat}(hn:n<18446744073709551616):Spec Tryz.prog 99 [.int .u64 (n:Int)] W F (fun _:Unit=>hJ (br.of n)) (fun _=>F):=by
 refine Spec.of Tryz.func99 rfl Tryz.ntmps99 rfl ?_
 repeat first|refine aa ?_ |intro
 exact ae (js (rv:= .cell 2 139) rfl ⟨_,rfl,aT.agg rfl⟩ () (Sz hn) (U.sat U.last))
theorem DO {a:Nat}(h:a≤65535):bits .and .i64 ((a:Int)+1) 65535=(((a+1)%65536:Nat):Int):=Ax (a+1) 16 (by omega) (by decide)
theorem u9 {a b:br}:(@decide (([.int .i64 (b.st:Int),.int .i64 (b.gen:Int),.int .i64 (b.tr:Int),.int .i64 (b.sn:Int)]:List Value)=[.int .i64 (b.st:Int),.int .i64 (a.gen:Int),.int .i64 (a.tr:Int),.int .i64 (a.sn:Int)]) (Classical.propDecidable _))=decide (b={a with st:=b.st}):=by
 obtain⟨a1,a2,a3,a4⟩:=a
 obtain⟨b1,b2,b3,b4⟩:=b
 rw[decide_eq_decide]
 simp only[List.cons.injEq,Value.int.injEq,br.mk.injEq,and_true,true_and,Int.natCast_inj]
theorem JN {a b:br}(ha:a.ok)(hb:b.ok):Spec Tryz.prog 200 [hJ a,hJ b] W F (fun _:Unit=> .bool (kr a b)) (fun _=>F):=by
 refine Spec.of Tryz.func200 rfl Tryz.ntmps200 rfl ?_
 have Yd:=ha.1
 have Nf:=ha.2.1
 repeat first|refine aa ?_ |intro
 refine af rfl (GP ha) ?_
 intro _
 repeat first|refine aa ?_ |intro
 refine af rfl (GP hb) ?_
 intro _
 have dS:a.st=0∨a.st=1∨a.st=2∨a.st=3:=by omega
 rcases dS with e|e|e|e
 ·by_cases e1:b.st=1
  ·repeat first|refine aa ?_ |intro
   refine ae (ar rfl rfl () ?_ (U.sat U.last))
   rw[FV e,DO Nf]
   rw[decide_eq_true e1,Bool.true_and];simp only[Int.natCast_inj]
  ·repeat first|refine aa ?_ |intro
   refine ae (ar rfl rfl () ?_ (U.sat U.last))
   rw[FV e]
   rw[decide_eq_false e1,Bool.false_and]
 ·by_cases e1:b.st=2
  ·repeat first|refine aa ?_ |intro
   refine ae (ar rfl rfl () ?_ (U.sat U.last))
   rw[AJ e,u9]
   rw[decide_eq_true e1,Bool.true_or,Bool.true_and]
  ·by_cases e2:b.st=0
   ·repeat first|refine aa ?_ |intro
    refine ae (ar rfl rfl () ?_ (U.sat U.last))
    rw[AJ e,u9]
    rw[decide_eq_true e2,Bool.or_true,Bool.true_and]
   ·repeat first|refine aa ?_ |intro
    refine ae (ar rfl rfl () ?_ (U.sat U.last))
    rw[AJ e]
    rw[decide_eq_false e1,decide_eq_false e2,Bool.or_false,Bool.false_and]
 ·by_cases e1:b.st=2
  ·by_cases e2:b.gen=a.gen
   ·repeat first|refine aa ?_ |intro
    refine ae (ar rfl rfl () ?_ (U.sat U.last))
    rw[v7 e]
    rw[if_pos e1,decide_eq_true e2,Bool.true_and];simp only[ge_iff_le,Int.ofNat_le]
   ·repeat first|refine aa ?_ |intro
    refine ae (ar rfl rfl () ?_ (U.sat U.last))
    rw[v7 e]
    rw[if_pos e1,decide_eq_false e2,Bool.false_and]
  ·by_cases e2:b.st=3
   ·repeat first|refine aa ?_ |intro
    refine ae (ar rfl rfl () ?_ (U.sat U.last))
    rw[v7 e,u9]
    rw[if_neg e1,decide_eq_true e2,Bool.true_and]
   ·repeat first|refine aa ?_ |intro
    refine ae (ar rfl rfl () ?_ (U.sat U.last))
    rw[v7 e]
    rw[if_neg e1,decide_eq_false e2,Bool.false_and]
 ·by_cases e1:b.st=0
  ·repeat first|refine aa ?_ |intro
   refine ae (ar rfl rfl () ?_ (U.sat U.last))
   rw[FW e,u9]
   rw[decide_eq_true e1,Bool.true_and]
  ·repeat first|refine aa ?_ |intro
   refine ae (ar rfl rfl () ?_ (U.sat U.last))
   rw[FW e]
   rw[decide_eq_false e1,Bool.false_and]
theorem Jp {α:Sort _}{ops l:List Oper}{F:SL}{P:α→SL}(h:∀a,EL X k ops l σ (P a*F)):EL X k ops l σ (SL.ex P*F):=by
 unfold EL at h ⊢
 exact fun a w ha hs=>let⟨x,hx⟩:=hs.gQ;h x a w ha hx
abbrev gM (p g:Option Addr)(ws:List Nat)(F:SL):SL:=Obj p 190 [.pointer g]*(bZ g ws*F)
def oK (p:Option Addr)(ws:List Nat)(g:Option Addr):SL:=Obj p 190 [.pointer g]*bZ g ws
def aJ (p:Option Addr)(ws:List Nat):SL:=SL.ex (oK p ws)
theorem oK.eq (p:Option Addr)(ws:List Nat)(g:Option Addr)(F:SL):oK p ws g*F=gM p g ws F:=by
 unfold oK gM
 rw[SL.bU]
theorem aJ.open (H:∀g,EK X k σ (gM p g ws F)):EK X k σ (aJ p ws*F):=ng fun g=>by
 rw[oK.eq];exact H g
theorem aJ.shut {g:Option Addr}:U (gM p g ws F) (aJ p ws*F):=U.ex g (by rw[oK.eq];exact U.refl _)
instance (priority:=2000)(p:Option Addr)(ws:List Nat)(F:SL):bw (aJ p ws*F) p (aJ p ws) F:=⟨rfl⟩
instance (p:Option Addr)(ws:List Nat):jQ (aJ p ws) p:=⟨fun W w F H=>by
 obtain⟨g,H⟩:=H.gQ
 rw[oK.eq]at H
 exact(Obj.root p _ _).nn W w _ H⟩
theorem J3 {n:Nat}(h1:1≤n)(h2:n≤3072):Spec Tryz.prog 56 [.int .i64 (n:Int)] W F (fun p:Option Addr=> .tuple #[.pointer p,.int .i64 0]) (fun p=>aJ p (List.replicate (2*n) 0)*F):=by
 refine Spec.of Tryz.func56 rfl Tryz.ntmps56 rfl ?_
 repeat first|refine aa ?_ |intro
 rw[show(2:Int)*(n:Int)=((2*n:Nat):Int)by omega]
 refine af rfl (uB (2*n) (by omega) (by omega)) ?_
 intro g
 repeat first|refine aa ?_ |intro
 rename_i x
 refine ae (eZ rfl rfl rfl x rfl (U.sat (U.trans ?_ (aJ.shut (g:=g)))))
 exact ab
theorem Ck {n:Nat}(hl:ws.length=2*n)(h2:n≤3072):Spec Tryz.prog 69 [.pointer p] W (gM p g ws F) (fun _:Unit=> .int .i64 (n:Int)) (fun _=>gM p g ws F):=by
 refine Spec.of Tryz.func69 rfl Tryz.ntmps69 rfl ?_
 simp only[gM]
 repeat first|refine aa ?_ |intro
 refine af rfl (Spec.aL g (uT g ws)) ?_
 intro _
 rw[hl]
 repeat first|refine aa ?_ |intro
 refine ae (ar rfl rfl () ?_ (U.sat ?_))
 ·rw[show((2*n:Nat):Int)/2=(n:Int)by omega]
 ·exact ab
theorem Cj {n:Nat}(hl:ws.length=2*n)(h2:n≤3072):Spec Tryz.prog 69 [.pointer p] W (aJ p ws*F) (fun _:Unit=> .int .i64 (n:Int)) (fun _=>aJ p ws*F):=by
 intro w hs
 obtain⟨g,hs⟩:=hs.gQ
 rw[oK.eq]at hs
 refine Calls.mono (Ck hl h2 w hs) ?_
 rintro e w' ⟨u,h1,h3⟩
 exact⟨u,h1,aJ.shut.sat w' h3⟩
theorem wV {n i:Nat}(hl:ws.length=2*n)(h2:n≤3072)(hi:i<n):Spec Tryz.prog 98 [.pointer p,.int .i64 (i:Int)] W (gM p g ws F) (fun _:Unit=> .bool true) (fun _=>gM p g ws F):=by
 refine Spec.of Tryz.func98 rfl Tryz.ntmps98 rfl ?_
 simp only[gM]
 repeat first|refine aa ?_ |intro
 refine af rfl (Ck hl h2) ?_
 intro _
 simp only[gM]
 repeat first|refine aa ?_ |intro
 exact ae (ar rfl rfl () rfl (U.sat (U.refl _)))
theorem p8 {n i:Nat}(hl:ws.length=2*n)(h2:n≤3072)(hi:i<n)(hw:∀j,ws.getD j 0<18446744073709551616):Spec Tryz.prog 67 [.pointer p,.int .i64 (i:Int)] W (aJ p ws*F) (fun _:Unit=>hJ (br.of (ws.getD (2*i) 0))) (fun _=>aJ p ws*F):=by
 refine Spec.of Tryz.func67 rfl Tryz.ntmps67 rfl ?_
 refine aJ.open fun g=> ?_
 simp only[gM]
 repeat first|refine aa ?_ |intro
 rename_i y
 refine af rfl (Spec.eY p g (wV hl h2 hi)) ?_
 intro _
 simp only[gM]
 repeat first|refine aa ?_ |intro
 rw[show(2:Int)*(i:Int)=((2*i:Nat):Int)by omega]
 refine af rfl (Spec.aL g (eJ g ws (2*i) (by omega) (by omega))) ?_
 intro _
 repeat first|refine aa ?_ |intro
 refine af rfl (Kl (hw (2*i))) ?_
 intro _
 repeat first|refine aa ?_ |intro
 refine ae (js (rv:= .cell 4 139) rfl ⟨_,rfl,aT.agg rfl⟩ () rfl (U.sat (U.trans ?_ (aJ.shut (g:=g)))))
 exact ab
theorem J2 {n i:Nat}{a b:br}(hl:ws.length=2*n)(h2:n≤3072)(hi:i<n)(ha:a.ok)(hb:b.ok):Spec Tryz.prog 155 [.pointer p,.int .i64 (i:Int),hJ a,hJ b] W (aJ p ws*F) (fun _:Unit=> .bool (kr a b&&decide (ws.getD (2*i) 0=a.num)))
  (fun _=>aJ p (if kr a b=true∧ws.getD (2*i) 0=a.num then ws.set (2*i) b.num else ws)*F):=by
 refine Spec.of Tryz.func155 rfl Tryz.ntmps155 rfl ?_
 refine aJ.open fun g=> ?_
 simp only[gM]
 repeat first|refine aa ?_ |intro
 rename_i x1 x2
 refine aG 99 (Obj x2 139 b.vs*(Obj x1 139 a.vs*(Obj p 190 [.pointer g]*1))) rfl rfl rfl ?_
 repeat(first|refine ak ?_ |refine eD ?_)
 refine aC rfl rfl rfl rfl rfl (Spec.eY p g (wV hl h2 hi)) (fun _=>by simp only[gM];exact ab) ?_
 intro _
 simp only[gM]
 repeat(first|refine ak ?_ |refine eD ?_)
 refine aC rfl rfl rfl rfl rfl (JN ha hb) (fun _=>ab) ?_
 intro _
 cases hm:kr a b with
 |false=>
  repeat(first|refine ak ?_ |refine eD ?_)
  repeat first|refine aa ?_ |intro
  refine ae (ar rfl rfl () (by rw[Bool.false_and]) (U.sat (U.trans ?_ (aJ.shut (g:=g)))))
  rw[if_neg (by simp)]
  exact ab
 |true=>
  repeat(first|refine ak ?_ |refine eD ?_)
  rw[show(2:Int)*(i:Int)=((2*i:Nat):Int)by omega]
  refine aC rfl rfl rfl rfl rfl (Gd ha) (fun _=>ab) ?_
  intro _
  repeat(first|refine ak ?_ |refine eD ?_)
  refine aC rfl rfl rfl rfl rfl (Gd hb) (fun _=>ab) ?_
  intro _
  repeat(first|refine ak ?_ |refine eD ?_)
  refine aC rfl rfl rfl rfl rfl (Spec.aL g (kF g ws (2*i) a.num b.num (by omega) (by omega))) (fun _=>ab) ?_
  intro _
  repeat(first|refine ak ?_ |refine eD ?_)
  repeat first|refine aa ?_ |intro
  refine ae (ar rfl rfl () (by rw[Bool.true_and]) (U.sat (U.trans ?_ (aJ.shut (g:=g)))))
  rw[show(if true=true∧ws.getD (2*i) 0=a.num then ws.set (2*i) b.num else ws)=if ws.getD (2*i) 0=a.num then ws.set (2*i) b.num else ws by simp]
  exact ab
theorem O9 {n:Nat}(h:n<18446744073709551616):(Value.agg #[.int .i64 (IntKind.i64.wrap ((n:Int)/2^Int.toNat 48)),.int .u32 (IntKind.u32.wrap ((n:Int)/2^Int.toNat 16)),.int .u16 (IntKind.u16.wrap (n:Int))])=
  .agg #[.int .i64 ((n/281474976710656:Nat):Int),.int .u32 ((n/65536%4294967296:Nat):Int),.int .u16 ((n%65536:Nat):Int)]:=by
 rw[show(n:Int)/2^Int.toNat 48=((n/281474976710656:Nat):Int)from ky n 48,show(n:Int)/2^Int.toNat 16=((n/65536:Nat):Int)from ky n 16,jZ (by omega),IntKind.wrap_u32,IntKind.wrap_u16]
 simp only[Int.natCast_emod]
 rfl
theorem yJ {n i:Nat}(hl:ws.length=2*n)(h2:n≤3072)(hi:i<n)(hw:∀j,ws.getD j 0<18446744073709551616):Spec Tryz.prog 71 [.pointer p,.int .i64 (i:Int)] W (aJ p ws*F)
  (fun _:Unit=> .agg #[.int .i64 ((ws.getD (2*i+1) 0/281474976710656:Nat):Int),.int .u32 ((ws.getD (2*i+1) 0/65536%4294967296:Nat):Int),.int .u16 ((ws.getD (2*i+1) 0%65536:Nat):Int)]) (fun _=>aJ p ws*F):=by
 refine Spec.of Tryz.func71 rfl Tryz.ntmps71 rfl ?_
 refine aJ.open fun g=> ?_
 simp only[gM]
 repeat first|refine aa ?_ |intro
 rename_i y
 refine af rfl (Spec.eY p g (wV hl h2 hi)) ?_
 intro _
 simp only[gM]
 repeat first|refine aa ?_ |intro
 rw[show(2:Int)*(i:Int)+1=((2*i+1:Nat):Int)by omega]
 refine af rfl (Spec.aL g (eJ g ws (2*i+1) (by omega) (by omega))) ?_
 intro _
 repeat first|refine aa ?_ |intro
 refine ae (js (rv:= .cell 4 103) rfl ⟨_,rfl,aT.agg rfl⟩ () (O9 (hw _)) (U.sat (U.trans ?_ (aJ.shut (g:=g)))))
 exact ab
theorem Ke {n i a b c:Nat}(hl:ws.length=2*n)(h2:n≤3072)(hi:i<n)(ha:a≤255)(hb:b<4294967296)(hc:c<65536):Spec Tryz.prog 164 [.pointer p,.int .i64 (i:Int),.agg #[.int .i64 (a:Int),.int .u32 (b:Int),.int .u16 (c:Int)]] W (aJ p ws*F)
  (fun _:Unit=> .int .i64 0) (fun _=>aJ p (ws.set (2*i+1) (fM a b c))*F):=by
 refine Spec.of Tryz.func164 rfl Tryz.ntmps164 rfl ?_
 refine aJ.open fun g=> ?_
 simp only[gM]
 repeat first|refine aa ?_ |intro
 refine af rfl (Spec.eY p g (wV hl h2 hi)) ?_
 intro _
 simp only[gM]
 repeat first|refine aa ?_ |intro
 refine af rfl (ur _ _) ?_
 intro _
 rw[decide_eq_true (p:=0≤(a:Int)∧(a:Int)≤255) ⟨by omega,by omega⟩]
 repeat first|refine aa ?_ |intro
 refine iQ 20 rfl (by kernel_rfl) rfl rfl ?_
 repeat(refine cI ?_)
 rw[show IntKind.u64.wrap ((a:Int)*2^Int.toNat 48)=((a*2^48:Nat):Int)from lE a 48 (by omega),show IntKind.u64.wrap ((b:Int)*2^Int.toNat 16)=((b*2^16:Nat):Int)from lE b 16 (by omega),E4 (by omega) hb hc,show(2:Int)*(i:Int)+1=((2*i+1:Nat):Int)by omega]
 refine af rfl (Spec.aL g (uU g ws (2*i+1) (fM a b c) (by omega) (by omega))) ?_
 intro _
 repeat first|refine aa ?_ |intro
 refine ae (ar rfl rfl () rfl (U.sat (U.trans ?_ (aJ.shut (g:=g)))))
 exact ab
end
section
open Go.RowKit
set_option maxRecDepth 10000
attribute [local irreducible] EK EX ER EN EL ES EG av aV aY
variable {W:World} {F:SL} {X:Cx} {k:List KI} {σ:Env} {p g:Option Addr} {ws:List Nat}
theorem R7 {n:Nat}:Spec Tryz.prog 288 [.int .u64 (n:Int)] W F (fun _:Unit=> .int .u64 (ml n:Int)) (fun _=>F):=by
 refine Spec.of Tryz.func288 rfl Tryz.ntmps288 rfl ?_
 repeat first|refine aa ?_ |intro
 refine ae (ar rfl rfl () ?_ (U.sat U.last))
 have h1:n*11400714819323198485%18446744073709551616<18446744073709551616:=Nat.mod_lt _ (by decide)
 rw[show(n:Int)*11400714819323198485=(n:Int)*((11400714819323198485:Nat):Int)from rfl,FZ,HU h1]
 have h2:=Tu h1
 rw[show ∀a:Nat,(a:Int)*13787848793156543929=(a:Int)*((13787848793156543929:Nat):Int)from fun _=>rfl,FZ,HU (Nat.mod_lt _ (by decide))]
 rfl
theorem Dz (b:Int):Spec Tryz.prog 91 [.int .i64 b] W F (fun _:Unit=> .bool (eK b)) (fun _=>F):=by
 refine Spec.of Tryz.func91 rfl Tryz.ntmps91 rfl ?_
 by_cases h1:2≤b
 ·by_cases h2:b≤1024
  ·obtain⟨k,rfl⟩:∃k:Nat,b=(k:Int):=⟨b.toNat,by omega⟩
   repeat first|refine aa ?_ |intro
   exact ae (ar rfl rfl () (by rw[MC (by omega) (by omega)]) (U.sat U.last))
  ·repeat first|refine aa ?_ |intro
   exact ae (ar rfl rfl () (by rw[Dy (fun e=>h2 e.2)]) (U.sat U.last))
 ·repeat first|refine aa ?_ |intro
  exact ae (ar rfl rfl () (by rw[Dy (fun e=>h1 e.1)]) (U.sat U.last))
theorem Rw {u i:Nat}(hu:u<18446744073709551616):IntKind.i64.wrap (bits .and .u64 ((u:Int)/2^(12*(i:Int)).toNat) 4095)=((u/2^(12*i)%4096:Nat):Int):=by
 have h1:u/2^(12*i)<18446744073709551616:=Nat.lt_of_le_of_lt (Nat.div_le_self _ _) hu
 rw[show(12*(i:Int))=((12*i:Nat):Int)by omega,ky,show bits .and .u64 ((u/2^(12*i):Nat):Int) 4095=((u/2^(12*i)%2^12:Nat):Int)from og 12 h1 (by decide),jZ (by omega)]
theorem gF {u i:Nat}(hu:u<18446744073709551616)(hi:i<4):Spec Tryz.prog 250 [.int .u64 (u:Int),.int .i64 (i:Int)] W F (fun _:Unit=> .int .i64 (bE u i)) (fun _=>F):=by
 refine Spec.of Tryz.func250 rfl Tryz.ntmps250 rfl ?_
 repeat first|refine aa ?_ |intro
 exact ae (ar rfl rfl () (by rw[Rw hu];exact congrArg _ (bq.wrap (by simp only[bq];omega))) (U.sat U.last))
theorem qW {u:Nat}(id:Int)(hu:u<18446744073709551616):Spec Tryz.prog 242 [.int .u64 (u:Int),.int .i64 id] W F (fun _:Unit=> .int .i64 (dC u id)) (fun _=>F):=by
 refine Spec.of Tryz.func242 rfl Tryz.ntmps242 rfl ?_
 repeat first|refine aa ?_ |intro
 refine ed (γ:=Nat) (fun i=>i≤4∧∀j,j<i→bE u j≠id) (fun i=>[(0,.int .u64 (u:Int)),(1,.int .i64 id),(6,.int .i64 (i:Int))]) (fun _=>F) (fun i=>4-i) 0 ⟨Nat.zero_le _,fun j hj=>by omega⟩ ⟨rfl,rfl,rfl,trivial⟩ (U.sat (U.refl _)) ?_
 intro i ⟨hi,hj⟩
 by_cases kp:i<4
 ·repeat first|refine aa ?_ |intro
  refine af rfl (gF hu kp) ?_
  intro _
  by_cases hx:bE u i=id
  ·repeat first|refine aa ?_ |intro
   refine ae (ar rfl rfl () ?_ (U.sat (U.refl _)))
   unfold dC
   match i,kp,hx,hj with
   |0,_,hx,_=>rw[if_pos hx];rfl
   |1,_,hx,hj=>rw[if_neg (hj 0 (by decide)),if_pos hx];rfl
   |2,_,hx,hj=>rw[if_neg (hj 0 (by decide)),if_neg (hj 1 (by decide)),if_pos hx];rfl
   |3,_,hx,hj=>rw[if_neg (hj 0 (by decide)),if_neg (hj 1 (by decide)),if_neg (hj 2 (by decide)),if_pos hx];rfl
  ·repeat first|refine aa ?_ |intro
   refine db (i+1) ⟨by omega,fun j h=> ?_⟩ (by omega) ⟨rfl,rfl,rfl,trivial⟩ (U.sat (U.refl _))
   rcases Nat.lt_succ_iff_lt_or_eq.1 h with h|rfl
   ·exact hj j h
   ·exact hx
 ·repeat first|refine aa ?_ |intro
  refine ae (ar rfl rfl () ?_ (U.sat (U.refl _)))
  unfold dC
  rw[if_neg (hj 0 (by omega)),if_neg (hj 1 (by omega)),if_neg (hj 2 (by omega)),if_neg (hj 3 (by omega))]
theorem Gw {i v:Nat}(hi:i<4)(hv:v<4096):v*2^(12*i)<281474976710656:=by
 match i,hi with
 |0,_=>omega
 |1,_=>omega
 |2,_=>omega
 |3,_=>omega
theorem Sj {u i v:Nat}(hu:u<18446744073709551616)(hi:i<4)(hv:v<4096):IntKind.u64.wrap (bits .or .u64 (bits .andNot .u64 (u:Int) (IntKind.u64.wrap (4095*2^(12*(i:Int)).toNat))) (IntKind.u64.wrap ((v:Int)*2^(12*(i:Int)).toNat))+281474976710656)=(kN u i v:Int):=by
 have h1:=Gw hi hv
 have h2:=Gw hi (v:=4095) (by decide)
 rw[show(12*(i:Int))=((12*i:Nat):Int)by omega,show IntKind.u64.wrap ((4095:Int)*2^((12*i:Nat):Int).toNat)=((4095*2^(12*i):Nat):Int)from lE 4095 (12*i) (by omega),lE v (12*i) (by omega),
  u64_andNot_nat _ _ hu (by omega),u64_or_nat _ _ (Nat.lt_of_le_of_lt Nat.and_le_left hu) (by omega),IntKind.wrap_u64]
 unfold kN
 omega
theorem Hj {u i v:Nat}(hu:u<18446744073709551616)(hi:i<4)(hv:v<4096):Spec Tryz.prog 289 [.int .u64 (u:Int),.int .i64 (i:Int),.int .u64 (v:Int)] W F (fun _:Unit=> .int .u64 (kN u i v:Int)) (fun _=>F):=by
 refine Spec.of Tryz.func289 rfl Tryz.ntmps289 rfl ?_
 repeat first|refine aa ?_ |intro
 exact ae (ar rfl rfl () (by rw[Sj hu hi hv]) (U.sat U.last))
theorem HB (u:Nat)(id:Int):dC u id<4∧ -1≤dC u id:=by
 unfold dC
 repeat(first|(split; ·omega)|omega)
theorem rn {u:Nat}(hu:u<18446744073709551616):Spec Tryz.prog 251 [.int .u64 (u:Int)] W F (fun _:Unit=> .bool (cD u)) (fun _=>F):=by
 refine Spec.of Tryz.func251 rfl Tryz.ntmps251 rfl ?_
 repeat first|refine aa ?_ |intro
 refine af rfl (qW _ hu) ?_
 intro _
 repeat first|refine aa ?_ |intro
 exact ae (ar rfl rfl () rfl (U.sat U.last))
theorem HH {u:Nat}{id:Int}(hu:u<18446744073709551616)(h1:0≤id)(h2:id<4095)(hf:cD u=false):Spec Tryz.prog 258 [.int .u64 (u:Int),.int .i64 id] W F (fun _:Unit=> .int .u64 (jm u id:Int)) (fun _=>F):=by
 refine Spec.of Tryz.func258 rfl Tryz.ntmps258 rfl ?_
 have hw:=HB u (-1)
 have vP:0≤dC u (-1):=by unfold cD at hf;have:=of_decide_eq_false hf;omega
 obtain⟨i,hi⟩:∃i:Nat,dC u (-1)=(i:Int):=⟨(dC u (-1)).toNat,by omega⟩
 obtain⟨k,rfl⟩:∃k:Nat,id=(k:Int):=⟨id.toNat,by omega⟩
 have fz:jm u (k:Int)=kN u i (k+1):=by unfold jm;rw[hi];rfl
 repeat first|refine aa ?_ |intro
 refine af rfl (qW _ hu) ?_
 intro _
 rw[hi]
 repeat first|refine aa ?_ |intro
 rw[show((k:Int)+1)=((k+1:Nat):Int)by omega]
 refine af rfl (Hj hu (by omega) (by omega)) ?_
 intro _
 repeat first|refine aa ?_ |intro
 exact ae (ar rfl rfl () (by rw[fz]) (U.sat U.last))
abbrev vh (a:Int)(b c:Nat):Value:= .agg #[.int .i64 a,.int .u32 (b:Int),.int .u16 (c:Int)]
def tN (a:Int)(b c:Nat):Nat:=fM ((a%65536).toNat) b c
def nZ (a:Int)(b c:Nat)(k:Int):Int×Int:=if eK k=true then(((gh (tN a b c) k.toNat).1:Int),((gh (tN a b c) k.toNat).2:Int))else(0,0)
theorem Cq (a:Int){b c:Nat}(k:Int)(hb:b<4294967296)(hc:c<65536):Spec Tryz.prog 240 [vh a b c,.int .i64 k] W F (fun _:Unit=> .tuple #[.int .i64 (nZ a b c k).1,.int .i64 (nZ a b c k).2]) (fun _=>F):=by
 refine Spec.of Tryz.func240 rfl Tryz.ntmps240 rfl ?_
 repeat first|refine aa ?_ |intro
 refine af rfl (Dz k) ?_
 intro _
 cases hf:eK k with
 |false=>
  repeat first|refine aa ?_ |intro
  exact ae (eZ rfl rfl rfl () (by unfold nZ;rw[hf];rfl) (U.sat U.last))
 |true=>
  have hk:2≤k∧k≤1024:=by unfold eK at hf;have:=of_decide_eq_true hf;omega
  obtain⟨n,rfl⟩:∃n:Nat,k=(n:Int):=⟨k.toNat,by omega⟩
  repeat first|refine aa ?_ |intro
  obtain⟨x,hx,pq⟩:∃x:Nat,IntKind.u64.wrap a=(x:Int)∧x%65536=(a%65536).toNat:=⟨(a%18446744073709551616).toNat,by rw[IntKind.wrap_u64];omega,by omega⟩
  rw[hx,Sv x,show IntKind.u64.wrap ((b:Int)*2^Int.toNat 16)=((b*2^16:Nat):Int)from lE b 16 (by omega),E4 (Nat.mod_lt _ (by decide)) hb hc,pq]
  refine af rfl R7 ?_
  intro _
  have hs:=R6 (fM (a%65536).toNat b c)
  have pk:nZ a b c (n:Int)=(((gh (fM (a%65536).toNat b c) n).1:Int),((gh (fM (a%65536).toNat b c) n).2:Int)):=by unfold nZ tN;rw[if_pos hf];rfl
  rw[pk]
  unfold gh
  generalize ml (fM (a%65536).toNat b c)=y at*
  haveI:Pos n:=⟨by omega⟩
  have YR:y%n<n:=Nat.mod_lt _ (by omega)
  obtain⟨m,hm⟩:∃m,n=m+1:=⟨n-1,by omega⟩
  haveI:Pos m:=⟨by omega⟩
  have Yk:y/4294967296%m<m:=Nat.mod_lt _ (by omega)
  have Np:(y:Int)/2^Int.toNat 32=((y/4294967296:Nat):Int):=ky y 32
  have Nq:((y/4294967296:Nat):Int)%(m:Int)=((y/4294967296%m:Nat):Int):=(Int.natCast_emod _ _).symm
  repeat first|refine aa ?_ |intro
  rw[show(y:Int)%(n:Int)=((y%n:Nat):Int)from(Int.natCast_emod _ _).symm]
  refine lb rfl (by kernel_rfl) ?_
  repeat(refine cI ?_)
  rw[Np,show((n:Int)-1)=(m:Int)by omega]
  repeat(refine cI ?_)
  rw[Nq,jZ (a:=y/4294967296%m) (by omega),show((y%n:Nat):Int)+1+((y/4294967296%m:Nat):Int)=((y%n+1+y/4294967296%m:Nat):Int)by omega,jZ (by omega)]
  repeat(refine cI ?_)
  repeat first|refine aa ?_ |intro
  refine ae (eZ rfl rfl rfl () ?_ (U.sat U.last))
  rw[show n-1=m by omega,←Int.natCast_emod]
end
section
open Go.RowKit
set_option maxRecDepth 10000
attribute [local irreducible] EK EX ER EN EL ES EG av aV aY
variable {W:World} {F:SL} {X:Cx} {k:List KI} {σ:Env} {p pp g:Option Addr} {ws cs pl:List Nat} {n np:Nat} {s:aR}
abbrev wL (w:br)(l:List Value):List Value:= .int .i64 (w.st:Int):: .int .i64 (w.gen:Int):: .int .i64 (w.tr:Int):: .int .i64 (w.sn:Int)::l
def iL (s:aR):List Value:=(Value.int .i64 (s.kind:Int)::Value.int .i64 (s.f1:Int)::Value.int .u32 (s.f2:Int)::Value.int .u16 (s.f3:Int)::Value.int .i64 s.id::Value.int .i64 (s.a:Int)::Value.int .i64 (s.b:Int)::Value.int .i64 (s.next:Int)::Value.int .u64 (s.first:Int)::Value.int .u64 (s.word:Int)::Value.int .i64 (s.at_:Int)::Value.bool s.half::Value.int .i64 (s.seen.st:Int)::Value.int .i64 (s.seen.gen:Int)::Value.int .i64 (s.seen.tr:Int)::Value.int .i64 (s.seen.sn:Int)::Value.int .u64 (s.still:Int)::Value.int .i64 (s.m.phase:Int)::Value.int .i64 (s.m.id:Int)::Value.int .i64 (s.m.fr:Int)::Value.int .i64 (s.m.to:Int)::Value.int .i64 (s.m.version:Int)::Value.int .i64 (s.m.aK:Int)::Value.int .i64 (s.v:Int)::Value.int .i64 (s.u:Int)::Value.int .i64 (s.o0:Int)::Value.int .i64 (s.o1:Int)::Value.int .i64 (s.o2:Int)::Value.int .i64 (s.o3:Int)::Value.int .u64 (s.g0:Int)::Value.int .u64 (s.g1:Int)::Value.int .u64 (s.g2:Int)::Value.int .u64 (s.g3:Int)::Value.int .i64 (s.b0:Int)::Value.bool s.second::Value.int .i64 s.found::Value.int .i64 (s.aM.st:Int)::Value.int .i64 (s.aM.gen:Int)::Value.int .i64 (s.aM.tr:Int)::Value.int .i64 (s.aM.sn:Int)::Value.int .i64 (s.end_:Int)::Value.bool s.done::[])
abbrev dB (s:aR):List Value:=(Value.int .i64 (s.kind:Int)::Value.int .i64 (s.f1:Int)::Value.int .u32 (s.f2:Int)::Value.int .u16 (s.f3:Int)::Value.int .i64 s.id::Value.int .i64 (s.a:Int)::Value.int .i64 (s.b:Int)::Value.int .i64 (s.next:Int)::Value.int .u64 (s.first:Int)::Value.int .u64 (s.word:Int)::Value.int .i64 (s.at_:Int)::Value.bool s.half::Value.int .i64 (s.seen.st:Int)::Value.int .i64 (s.seen.gen:Int)::Value.int .i64 (s.seen.tr:Int)::Value.int .i64 (s.seen.sn:Int)::Value.int .u64 (s.still:Int)::Value.int .i64 (s.m.phase:Int)::Value.int .i64 (s.m.id:Int)::Value.int .i64 (s.m.fr:Int)::Value.int .i64 (s.m.to:Int)::Value.int .i64 (s.m.version:Int)::Value.int .i64 (s.m.aK:Int)::Value.int .i64 (s.v:Int)::Value.int .i64 (s.u:Int)::Value.int .i64 (s.o0:Int)::Value.int .i64 (s.o1:Int)::Value.int .i64 (s.o2:Int)::Value.int .i64 (s.o3:Int)::Value.int .u64 (s.g0:Int)::Value.int .u64 (s.g1:Int)::Value.int .u64 (s.g2:Int)::Value.int .u64 (s.g3:Int)::Value.int .i64 (s.b0:Int)::Value.bool s.second::Value.int .i64 s.found::Value.int .i64 (s.aM.st:Int)::Value.int .i64 (s.aM.gen:Int)::Value.int .i64 (s.aM.tr:Int)::Value.int .i64 (s.aM.sn:Int)::Value.int .i64 (s.end_:Int)::Value.bool s.done::[])
def au (p:Option Addr)(s:aR):SL:=Obj p 327 (iL s)
theorem au.open (H:EK X k σ (Obj p 327 (Value.int .i64 (s.kind:Int)::Value.int .i64 (s.f1:Int)::Value.int .u32 (s.f2:Int)::Value.int .u16 (s.f3:Int)::Value.int .i64 s.id::Value.int .i64 (s.a:Int)::Value.int .i64 (s.b:Int)::Value.int .i64 (s.next:Int)::Value.int .u64 (s.first:Int)::Value.int .u64 (s.word:Int)::Value.int .i64 (s.at_:Int)::Value.bool s.half::Value.int .i64 (s.seen.st:Int)::Value.int .i64 (s.seen.gen:Int)::Value.int .i64 (s.seen.tr:Int)::Value.int .i64 (s.seen.sn:Int)::Value.int .u64 (s.still:Int)::Value.int .i64 (s.m.phase:Int)::Value.int .i64 (s.m.id:Int)::Value.int .i64 (s.m.fr:Int)::Value.int .i64 (s.m.to:Int)::Value.int .i64 (s.m.version:Int)::Value.int .i64 (s.m.aK:Int)::Value.int .i64 (s.v:Int)::Value.int .i64 (s.u:Int)::Value.int .i64 (s.o0:Int)::Value.int .i64 (s.o1:Int)::Value.int .i64 (s.o2:Int)::Value.int .i64 (s.o3:Int)::Value.int .u64 (s.g0:Int)::Value.int .u64 (s.g1:Int)::Value.int .u64 (s.g2:Int)::Value.int .u64 (s.g3:Int)::Value.int .i64 (s.b0:Int)::Value.bool s.second::Value.int .i64 s.found::Value.int .i64 (s.aM.st:Int)::Value.int .i64 (s.aM.gen:Int)::Value.int .i64 (s.aM.tr:Int)::Value.int .i64 (s.aM.sn:Int)::Value.int .i64 (s.end_:Int)::Value.bool s.done::[])*F)):EK X k σ (au p s*F):=H
theorem au.ia {ops o:List Oper}(H:EL X k ops o σ (Obj p 327 (Value.int .i64 (s.kind:Int)::Value.int .i64 (s.f1:Int)::Value.int .u32 (s.f2:Int)::Value.int .u16 (s.f3:Int)::Value.int .i64 s.id::Value.int .i64 (s.a:Int)::Value.int .i64 (s.b:Int)::Value.int .i64 (s.next:Int)::Value.int .u64 (s.first:Int)::Value.int .u64 (s.word:Int)::Value.int .i64 (s.at_:Int)::Value.bool s.half::Value.int .i64 (s.seen.st:Int)::Value.int .i64 (s.seen.gen:Int)::Value.int .i64 (s.seen.tr:Int)::Value.int .i64 (s.seen.sn:Int)::Value.int .u64 (s.still:Int)::Value.int .i64 (s.m.phase:Int)::Value.int .i64 (s.m.id:Int)::Value.int .i64 (s.m.fr:Int)::Value.int .i64 (s.m.to:Int)::Value.int .i64 (s.m.version:Int)::Value.int .i64 (s.m.aK:Int)::Value.int .i64 (s.v:Int)::Value.int .i64 (s.u:Int)::Value.int .i64 (s.o0:Int)::Value.int .i64 (s.o1:Int)::Value.int .i64 (s.o2:Int)::Value.int .i64 (s.o3:Int)::Value.int .u64 (s.g0:Int)::Value.int .u64 (s.g1:Int)::Value.int .u64 (s.g2:Int)::Value.int .u64 (s.g3:Int)::Value.int .i64 (s.b0:Int)::Value.bool s.second::Value.int .i64 s.found::Value.int .i64 (s.aM.st:Int)::Value.int .i64 (s.aM.gen:Int)::Value.int .i64 (s.aM.tr:Int)::Value.int .i64 (s.aM.sn:Int)::Value.int .i64 (s.end_:Int)::Value.bool s.done::[])*F)):EL X k ops o σ (au p s*F):=H
theorem au.shut {l:List Value}(h:l=iL s):U (Obj p 327 l*F) (au p s*F):=by subst h;exact U.refl _
theorem au.bD {l:List Value}{G:SL}(h:l=iL s)(k:U F G):U (Obj p 327 l*F) (au p s*G):=U.trans (au.shut h) (U.cons k)
instance (priority:=2000)(p:Option Addr)(s:aR)(F:SL):bw (au p s*F) p (au p s) F:=⟨rfl⟩
instance (p:Option Addr)(s:aR):jQ (au p s) p:=⟨fun W w F H=>(Obj.root p _ _).nn W w _ H⟩
abbrev jR (p pp g:Option Addr)(n:Nat)(cs:List Nat)(F:SL):SL:=Obj p 192 [.pointer pp,.pointer g,.int .i64 (n:Int)]*(bZ g cs*F)
def qb (p pp:Option Addr)(n:Nat)(cs:List Nat)(g:Option Addr):SL:=Obj p 192 [.pointer pp,.pointer g,.int .i64 (n:Int)]*bZ g cs
def aF (p pp:Option Addr)(n:Nat)(cs:List Nat):SL:=SL.ex (qb p pp n cs)
theorem qb.eq (p pp:Option Addr)(n:Nat)(cs:List Nat)(g:Option Addr)(F:SL):qb p pp n cs g*F=jR p pp g n cs F:=by
 unfold qb jR
 rw[SL.bU]
theorem aF.open (H:∀g,EK X k σ (jR p pp g n cs F)):EK X k σ (aF p pp n cs*F):=ng fun g=>by
 rw[qb.eq];exact H g
theorem aF.shut {g:Option Addr}:U (jR p pp g n cs F) (aF p pp n cs*F):=U.ex g (by rw[qb.eq];exact U.refl _)
instance (priority:=2000)(p pp:Option Addr)(n:Nat)(cs:List Nat)(F:SL):bw (aF p pp n cs*F) p (aF p pp n cs) F:=⟨rfl⟩
instance (p pp:Option Addr)(n:Nat)(cs:List Nat):jQ (aF p pp n cs) p:=⟨fun W w F H=>by
 obtain⟨g,H⟩:=H.gQ
 rw[qb.eq]at H
 exact(Obj.root p _ _).nn W w _ H⟩
theorem Kg {m:Nat}(hf:eK (n:Int)=true)(hl:ws.length=2*m)(hm:m≤3072):Spec Tryz.prog 58 [.pointer pp,.int .i64 (n:Int)] W (aJ pp ws*F) (fun p:Option Addr=> .tuple #[.pointer p,.int .i64 0]) (fun p=>aF p pp n (List.replicate (n+1) 0)*(aJ pp ws*F)):=by
 refine Spec.of Tryz.func58 rfl Tryz.ntmps58 rfl ?_
 have hk:2≤(n:Int)∧(n:Int)≤1024:=by unfold eK at hf;have:=of_decide_eq_true hf;omega
 repeat first|refine aa ?_ |intro
 refine af rfl (Dz _) ?_
 intro _
 rw[hf]
 repeat first|refine aa ?_ |intro
 refine af rfl (Cj hl hm) ?_
 intro _
 repeat first|refine aa ?_ |intro
 rw[show(n:Int)+1=((n+1:Nat):Int)by omega]
 refine af rfl (uB (n+1) (by omega) (by omega)) ?_
 intro g
 repeat first|refine aa ?_ |intro
 rename_i x
 refine ae (eZ rfl rfl rfl x rfl (U.sat (U.trans ?_ (aF.shut (g:=g)))))
 exact ab
theorem Hi {kd f1 f2 f3 nx:Nat}{id:Int}(hf:eK (n:Int)=true)(h1:f1≤255)(h2:f2<4294967296)(h3:f3<65536):Spec Tryz.prog 194 [.pointer p,.int .i64 (kd:Int),vh (f1:Int) f2 f3,.int .i64 id,.int .i64 (nx:Int)] W (aF p pp n cs*F) (fun g:Option Addr=> .pointer g)
  (fun g=>au g (qS kd f1 f2 f3 id nx n)*(aF p pp n cs*F)):=by
 refine Spec.of Tryz.func194 rfl Tryz.ntmps194 rfl ?_
 have hk:2≤(n:Int)∧(n:Int)≤1024:=by unfold eK at hf;have:=of_decide_eq_true hf;omega
 have pk:nZ (f1:Int) f2 f3 (n:Int)=(((gh (fM f1 f2 f3) n).1:Int),((gh (fM f1 f2 f3) n).2:Int)):=by
  unfold nZ tN;rw[if_pos hf,show((f1:Int)%65536).toNat=f1 by omega];rfl
 refine aF.open fun g=> ?_
 simp only[jR]
 repeat first|refine aa ?_ |intro
 rename_i y
 refine aG 99 (Obj y 103 [.int .i64 (f1:Int),.int .u32 (f2:Int),.int .u16 (f3:Int)]*(Obj p 192 [.pointer pp,.pointer g,.int .i64 (n:Int)]*1)) rfl rfl rfl ?_
 repeat(first|refine ak ?_ |refine eD ?_)
 refine aC rfl rfl rfl rfl rfl (Cq _ _ h2 h3) (fun _=>ab) ?_
 intro _
 rw[pk]
 repeat(first|refine ak ?_ |refine eD ?_)
 repeat first|refine aa ?_ |intro
 rename_i x
 refine ae (ar rfl rfl x rfl (U.sat (U.trans ?_ (au.shut (s:=qS kd f1 f2 f3 id nx n) rfl))))
 refine U.obj x rfl (U.trans ?_ (aF.shut (g:=g)))
 exact ab
theorem Cs {f1 f2 f3:Nat}(hf:eK (n:Int)=true)(h1:f1≤255)(h2:f2<4294967296)(h3:f3<65536):Spec Tryz.prog 148 [.pointer p,vh (f1:Int) f2 f3] W (aF p pp n cs*F) (fun g:Option Addr=> .pointer g)
  (fun g=>au g (qS 0 f1 f2 f3 (-1) 0 n)*(aF p pp n cs*F)):=by
 refine Spec.of Tryz.func148 rfl Tryz.ntmps148 rfl ?_
 repeat first|refine aa ?_ |intro
 refine af rfl (Spec.aL p (Hi (kd:=0) (nx:=0) hf h1 h2 h3)) ?_
 intro g
 repeat first|refine aa ?_ |intro
 exact ae (ar rfl rfl g rfl (U.sat (ab)))
theorem Kh {f1 f2 f3:Nat}{id:Int}(hf:eK (n:Int)=true)(h1:f1≤255)(h2:f2<4294967296)(h3:f3<65536):Spec Tryz.prog 211 [.pointer p,vh (f1:Int) f2 f3,.int .i64 id] W (aF p pp n cs*F) (fun g:Option Addr=> .pointer g)
  (fun g=>au g (qS 1 f1 f2 f3 id 0 n)*(aF p pp n cs*F)):=by
 refine Spec.of Tryz.func211 rfl Tryz.ntmps211 rfl ?_
 repeat first|refine aa ?_ |intro
 refine af rfl (Spec.aL p (Hi (kd:=1) (nx:=0) hf h1 h2 h3)) ?_
 intro g
 repeat first|refine aa ?_ |intro
 exact ae (ar rfl rfl g rfl (U.sat (ab)))
theorem ql {e:Nat}:Spec Tryz.prog 243 [.pointer p,.int .i64 (e:Int)] W (au p s*F) (fun _:Unit=> .tuple #[]) (fun _=>au p (hO s e)*F):=by
 refine Spec.of Tryz.func243 rfl Tryz.ntmps243 rfl ?_
 refine au.open ?_
 repeat first|refine aa ?_ |intro
 exact aH (aI rfl () rfl (U.sat (au.shut (by rfl))))
theorem Bk {u nx:Nat}:Spec Tryz.prog 255 [.pointer p,.int .u64 (u:Int),.int .i64 (nx:Int)] W (au p s*F) (fun _:Unit=> .tuple #[]) (fun _=>au p (pK s u nx)*F):=by
 refine Spec.of Tryz.func255 rfl Tryz.ntmps255 rfl ?_
 refine au.open ?_
 repeat first|refine aa ?_ |intro
 exact aH (aI rfl () rfl (U.sat (au.shut (by rfl))))
theorem KQ (hk:s.kind≤2)(hw:s.first<18446744073709551616):Spec Tryz.prog 257 [.pointer p] W (au p s*F) (fun _:Unit=> .int .i64 (mC s:Int)) (fun _=>au p s*F):=by
 refine Spec.of Tryz.func257 rfl Tryz.ntmps257 rfl ?_
 refine au.open ?_
 by_cases h0:s.kind=0
 ·repeat first|refine aa ?_ |intro
  exact ae (ar rfl rfl () (by unfold mC;rw[if_pos h0];rfl) (U.sat (au.shut (by rfl))))
 ·repeat first|refine aa ?_ |intro
  refine af rfl (rn hw) ?_
  intro _
  cases nJ:cD s.first with
  |true=>
   repeat first|refine aa ?_ |intro
   exact ae (ar rfl rfl () (by unfold mC;rw[if_neg h0,nJ];rfl) (U.sat (au.shut (by rfl))))
  |false=>
   repeat first|refine aa ?_ |intro
   exact ae (ar rfl rfl () (by unfold mC;rw[if_neg h0,nJ];rfl) (U.sat (au.shut (by rfl))))
end
section
open Go.RowKit
set_option maxRecDepth 10000
attribute [local irreducible] EK EX ER EN EL ES EG av aV aY
variable {W:World} {F:SL} {X:Cx} {k:List KI} {σ:Env} {p pp g q:Option Addr} {ws cs pl:List Nat} {n np:Nat} {s:aR}
set_option maxHeartbeats 2000000 in
theorem E9 (h:Cb n np cs pl s):Spec Tryz.prog 256 [.pointer p,.pointer q] W (au q s*(Obj p 192 [.pointer pp,.pointer g,.int .i64 (n:Int)]*(aJ pp pl*F))) (fun _:Unit=> .bool (dL pl s).2)
  (fun _=>au q (dL pl s).1*(Obj p 192 [.pointer pp,.pointer g,.int .i64 (n:Int)]*(aJ pp pl*F))):=by
 refine Spec.of Tryz.func256 rfl Tryz.ntmps256 rfl ?_
 have dS:=Bf (word:=s.word) (id:=s.id) 4 s.at_ (by omega)
 have hle:=Be s.word s.id 4 s.at_ h.lQ
 have fy:=h.word
 repeat first|refine aa ?_ |intro
 refine sk (γ:=aR) (fun t=>t={s with at_:=gq s.word s.id 4 s.at_}) (fun _=>[(0,.pointer p),(1,.pointer q),(4,.bool false)]) (fun t=>au q t*(Obj p 192 [.pointer pp,.pointer g,.int .i64 (n:Int)]*(aJ pp pl*F))) ?_ ?_
 ·refine ed (γ:=Nat×aR) (fun g=>g.2.at_≤4∧4≤g.2.at_+g.1∧gq s.word s.id g.1 g.2.at_=gq s.word s.id 4 s.at_∧g.2={s with at_:=g.2.at_}) (fun _=>[(0,.pointer p),(1,.pointer q),(4,.bool false)]) (fun i=>au q i.2*(Obj p 192 [.pointer pp,.pointer g,.int .i64 (n:Int)]*(aJ pp pl*F))) (fun g=>4-g.2.at_) (4,s) ⟨h.lQ,by dsimp only;omega,rfl,rfl⟩ ⟨rfl,rfl,rfl,trivial⟩ (U.sat (U.refl _)) ?_
  intro ⟨fu,t⟩ ⟨hi,nJ,rB,ht⟩;dsimp only at hi nJ rB ht ⊢
  have fe:t.word=s.word:=by rw[ht]
  have iD:t.id=s.id:=by rw[ht]
  have he:=rB
  rw[←fe,←iD]at he
  rw[←fe]at fy
  refine au.open ?_
  repeat first|refine aa ?_ |intro
  by_cases kp:t.at_<4
  ·obtain⟨f,rfl⟩:∃f,fu=f+1:=⟨fu-1,by omega⟩
   have ED:=h.refs t.at_ kp
   rw[←fe]at ED
   refine aG 99 (Obj q 327 (dB t)*1) rfl rfl rfl ?_
   repeat(first|refine ak ?_ |refine eD ?_)
   refine aC rfl rfl rfl rfl rfl (gF fy kp) (fun _=>ab) ?_
   intro _
   by_cases h1:bE t.word t.at_<0
   ·repeat(first|refine ak ?_ |refine eD ?_)
    repeat first|refine aa ?_ |intro
    refine db (f,{t with at_:=t.at_+1}) ⟨by dsimp only;omega,by dsimp only;omega,by dsimp only;rw[←fe,←iD,←he,gq,if_pos ⟨kp,.inl h1⟩],by dsimp only;rw[ht]⟩ (by dsimp only;omega) ⟨rfl,rfl,rfl,trivial⟩ (U.sat ?_)
    exact au.shut (by rfl)
   ·by_cases h2:bE t.word t.at_=t.id
    ·repeat(first|refine ak ?_ |refine eD ?_)
     refine aC rfl rfl rfl rfl rfl (gF fy kp) (fun _=>ab) ?_
     intro _
     repeat(first|refine ak ?_ |refine eD ?_)
     repeat first|refine aa ?_ |intro
     refine db (f,{t with at_:=t.at_+1}) ⟨by dsimp only;omega,by dsimp only;omega,by dsimp only;rw[←fe,←iD,←he,gq,if_pos ⟨kp,.inr h2⟩],by dsimp only;rw[ht]⟩ (by dsimp only;omega) ⟨rfl,rfl,rfl,trivial⟩ (U.sat ?_)
     exact au.shut (by rfl)
    ·repeat(first|refine ak ?_ |refine eD ?_)
     refine aC rfl rfl rfl rfl rfl (gF fy kp) (fun _=>ab) ?_
     intro _
     repeat(first|refine ak ?_ |refine eD ?_)
     repeat first|refine aa ?_ |intro
     have zK:gq s.word s.id (f+1) t.at_=t.at_:=by rw[←fe,←iD,gq,if_neg (fun e=>e.2.elim h1 h2)]
     rw[zK]at rB
     refine fv t (by rw[ht,←rB]) ⟨rfl,rfl,rfl,trivial⟩ (U.sat ?_)
     exact au.shut (by rfl)
  ·refine aG 99 (Obj q 327 (dB t)*1) rfl rfl rfl ?_
   repeat(first|refine ak ?_ |refine eD ?_)
   repeat first|refine aa ?_ |intro
   have zK:gq s.word s.id fu t.at_=t.at_:=by
    cases fu with
    |zero=>rfl
    |succ f=>rw[gq,if_neg (fun e=>kp e.1)]
   rw[zK]at rB
   refine fv t (by rw[ht,←rB]) ⟨rfl,rfl,rfl,trivial⟩ (U.sat ?_)
   exact au.shut (by rfl)
 ·intro t ht
  have fe:t.word=s.word:=by rw[ht]
  have iD:t.id=s.id:=by rw[ht]
  have vM:t.at_=gq s.word s.id 4 s.at_:=by rw[ht]
  have Nx:t.f1≤255:=by rw[ht];exact h.f1
  have qv:t.f2<4294967296:=by rw[ht];exact h.f2
  have Ny:t.f3<65536:=by rw[ht];exact h.f3
  rw[←vM,←fe,←iD]at dS
  rw[←vM]at hle
  rw[←fe]at fy
  have Ak:=h.pw
  have gn:=h.Q5
  have cg:=h.hZ
  rw[show dL pl s=je pl t by unfold dL;rw[ht]]
  have hrefs:=h.refs
  rw[←fe]at hrefs
  clear ht vM fe iD
  refine au.open ?_
  by_cases h4:t.at_=4
  ·repeat first|refine aa ?_ |intro
   have e:je pl t=(t,true):=by unfold je;rw[if_pos h4]
   rw[e]
   exact ae (ar rfl rfl () rfl (U.sat (au.shut (by rfl))))
  ·have kp:t.at_<4:=by omega
   have ED:=hrefs t.at_ kp
   have YG:¬bE t.word t.at_<0:=fun e=>dS ⟨kp,.inl e⟩
   obtain⟨j,hj⟩:∃j:Nat,bE t.word t.at_=(j:Int):=⟨(bE t.word t.at_).toNat,by omega⟩
   repeat first|refine aa ?_ |intro
   refine aG 99 (Obj q 327 (dB t)*1) rfl rfl rfl ?_
   repeat(first|refine ak ?_ |refine eD ?_)
   refine aC rfl rfl rfl rfl rfl (gF fy kp) (fun _=>ab) ?_
   intro _
   rw[hj]
   repeat(first|refine ak ?_ |refine eD ?_)
   cases hh:t.half with
   |false=>
    repeat first|refine aa ?_ |intro
    refine af rfl (Spec.aL pp (p8 gn cg (by omega) Ak)) ?_
    intro _
    have e:je pl t=if(br.of (pl.getD (2*j) 0)).st=1∨(br.of (pl.getD (2*j) 0)).st=2 then({t with seen:=br.of (pl.getD (2*j) 0),half:=true},false)else({t with seen:=br.of (pl.getD (2*j) 0),at_:=t.at_+1},decide (t.at_+1=4)):=by
     unfold je;rw[if_neg h4,hj,if_pos hh,Int.toNat_natCast]
    rw[e]
    generalize br.of (pl.getD (2*j) 0)=w at*
    by_cases w1:w.st=1
    ·repeat first|refine aa ?_ |intro
     rw[if_pos (.inl w1)]
     exact ae (ar rfl rfl () rfl (U.sat (au.bD (by rfl) (ab))))
    ·by_cases w2:w.st=2
     ·repeat first|refine aa ?_ |intro
      rw[if_pos (.inr w2)]
      exact ae (ar rfl rfl () rfl (U.sat (au.bD (by rfl) (ab))))
     ·repeat first|refine aa ?_ |intro
      rw[if_neg (fun e=>e.elim w1 w2)]
      refine ae (ar rfl rfl () ?_ (U.sat (au.bD (by unfold iL;dsimp only;rw[hh];rfl) (ab))))
      exact congrArg _ (decide_eq_decide.2 (by omega))
   |true=>
    repeat first|refine aa ?_ |intro
    refine aG 99 (Obj p 192 [.pointer pp,.pointer g,.int .i64 (n:Int)]*(Obj q 327 (dB {t with half:=false})*1)) rfl rfl rfl ?_
    repeat(first|refine ak ?_ |refine eD ?_)
    refine aC rfl rfl rfl rfl rfl (Spec.aL pp (yJ gn cg (by omega) Ak)) (fun _=>ab) ?_
    intro _
    repeat(first|refine ak ?_ |refine eD ?_)
    dsimp only
    rw[O7 (Ak (2*j+1)) Nx qv Ny]
    have e:je pl t=if pl.getD (2*j+1) 0=fM t.f1 t.f2 t.f3 then({t with half:=false,found:=(j:Int),aM:=t.seen,done:=true,end_:=if t.kind=1 then 10 else 0},false)else({t with half:=false,at_:=t.at_+1},decide (t.at_+1=4)):=by
     unfold je;rw[if_neg h4,hj,hh];rfl
    rw[e]
    by_cases hk:pl.getD (2*j+1) 0=fM t.f1 t.f2 t.f3
    ·rw[if_pos hk,decide_eq_true hk]
     repeat first|refine aa ?_ |intro
     refine af rfl (Spec.pre (ql (p:=q) (e:=0) (s:={t with half:=false,found:=(j:Int),aM:=t.seen})) (au.bD (by rfl) (U.refl _))) ?_
     intro _
     refine au.ia ?_
     dsimp only[hO]
     by_cases bj:t.kind=1
     ·repeat first|refine aa ?_ |intro
      rw[if_pos bj]
      exact ae (ar rfl rfl () rfl (U.sat (au.bD (by rfl) (ab))))
     ·repeat first|refine aa ?_ |intro
      rw[if_neg bj]
      exact ae (ar rfl rfl () rfl (U.sat (au.bD (by rfl) (ab))))
    ·rw[if_neg hk,decide_eq_false hk]
     repeat first|refine aa ?_ |intro
     refine ae (ar rfl rfl () ?_ (U.sat (au.bD (by rfl) (ab))))
     exact congrArg _ (decide_eq_decide.2 (by omega))
end
section
open Go.RowKit
set_option maxRecDepth 10000
attribute [local irreducible] EK EX ER EN EL ES EG av aV aY
variable {W:World} {F:SL} {X:Cx} {k:List KI} {σ:Env} {p pp g q:Option Addr} {ws cs pl:List Nat} {n np:Nat} {s:aR}
set_option maxHeartbeats 2000000 in
theorem RT (h:Cb n np cs pl s):Spec Tryz.prog 198 [.pointer p,.pointer q] W (au q s*(aF p pp n cs*(aJ pp pl*F))) (fun _:Unit=> .tuple #[])
  (fun _=>au q (gG cs pl s).2*(aF p pp n (gG cs pl s).1*(aJ pp pl*F))):=by
 refine Spec.of Tryz.func198 rfl Tryz.ntmps198 rfl ?_
 have ha:=h.a
 have hb:=h.b
 have jW:=h.sP
 have jC:=h.n2
 have vF:=h.next
 refine cy p (aF.open fun g=> ?_)
 simp only[jR]
 refine cy q (au.open ?_)
 have hU:s.next=0∨s.next=1∨s.next=2∨s.next=3∨s.next=4∨s.next=5:=by omega
 rcases hU with e|e|e|e|e|e
 ·have es:gG cs pl s=(cs,pK {s with first:=cs.getD s.a 0} (cs.getD s.a 0) 1):=by unfold gG;rw[if_pos e]
  rw[es]
  repeat first|refine aa ?_ |intro
  refine aG 12 (Obj p 192 [.pointer pp,.pointer g,.int .i64 (n:Int)]*(Obj q 327 (dB s)*1)) rfl rfl rfl ?_
  repeat(first|refine ak ?_ |refine eD ?_)
  refine aC rfl rfl rfl rfl rfl (Spec.aL g (eJ g cs s.a (by omega) (by omega))) (fun _=>ab) ?_
  intro _
  repeat(first|refine ak ?_ |refine eD ?_)
  repeat(first|refine bJ ?_ |(refine bN ?_;intro)|refine bK ?_ |refine bL ?_ |refine bM ?_ |refine eD ?_)
  repeat first|refine aa ?_ |intro
  refine af rfl (Spec.pre (Bk (p:=q) (s:={s with first:=cs.getD s.a 0}) (u:=cs.getD s.a 0) (nx:=1)) (au.bD (by rfl) (U.refl _))) ?_
  intro _
  repeat first|refine aa ?_ |intro
  exact aH (aI rfl () rfl (U.sat (U.cons (U.trans (ab) (aF.shut (g:=g))))))
 ·repeat first|refine aa ?_ |intro
  refine af rfl (Spec.pre (E9 h (p:=p) (q:=q) (g:=g) (pp:=pp) (F:=bZ g cs*F)) (au.bD (by rfl) (ab))) ?_
  intro _
  have es:gG cs pl s=(cs,if(dL pl s).2=true then {(dL pl s).1 with next:=2}else(dL pl s).1):=by unfold gG;simp only[e];rfl
  rw[es]
  have vB:(dL pl s).1.first=s.first∧(dL pl s).1.kind=s.kind:=by
   unfold dL je
   split
   ·exact⟨rfl,rfl⟩
   ·dsimp only
    split
    ·split<;>exact⟨rfl,rfl⟩
    ·split<;>exact⟨rfl,rfl⟩
  generalize dL pl s=L at*
  cases hL:L.2 with
  |true=>
   refine au.ia ?_
   repeat first|refine aa ?_ |intro
   rw[if_pos rfl]
   exact aH (aI rfl () rfl (U.sat (au.bD (by rfl) (U.trans (ab) (aF.shut (g:=g))))))
  |false=>
   repeat first|refine aa ?_ |intro
   rw[if_neg (by decide)]
   exact aH (aI rfl () rfl (U.sat (U.cons (U.trans (ab) (aF.shut (g:=g))))))
 ·have es:gG cs pl s=(cs,pK s (cs.getD s.b 0) 3):=by unfold gG;simp only[e];rfl
  rw[es]
  repeat first|refine aa ?_ |intro
  refine aG 10 (Obj p 192 [.pointer pp,.pointer g,.int .i64 (n:Int)]*(Obj q 327 (dB s)*1)) rfl rfl rfl ?_
  repeat(first|refine ak ?_ |refine eD ?_)
  refine aC rfl rfl rfl rfl rfl (Spec.aL g (eJ g cs s.b (by omega) (by omega))) (fun _=>ab) ?_
  intro _
  repeat(first|refine ak ?_ |refine eD ?_)
  refine jr rfl rfl rfl rfl (Spec.aL q (Spec.pre (Bk (p:=q) (s:=s) (u:=cs.getD s.b 0) (nx:=3)) (au.bD (by rfl) (U.refl _)))) ?_
  intro _
  repeat(first|refine ak ?_ |refine eD ?_)
  repeat first|refine aa ?_ |intro
  exact aH (aI rfl () rfl (U.sat (U.cons (U.trans (ab) (aF.shut (g:=g))))))
 ·repeat first|refine aa ?_ |intro
  refine af rfl (Spec.pre (E9 h (p:=p) (q:=q) (g:=g) (pp:=pp) (F:=bZ g cs*F)) (au.bD (by rfl) (ab))) ?_
  intro _
  have es:gG cs pl s=(cs,if(dL pl s).2=true then {(dL pl s).1 with next:=mC (dL pl s).1}else(dL pl s).1):=by unfold gG;simp only[e];rfl
  rw[es]
  have vB:(dL pl s).1.first=s.first∧(dL pl s).1.kind=s.kind:=by
   unfold dL je
   split
   ·exact⟨rfl,rfl⟩
   ·dsimp only
    split
    ·split<;>exact⟨rfl,rfl⟩
    ·split<;>exact⟨rfl,rfl⟩
  generalize dL pl s=L at*
  cases hL:L.2 with
  |true=>
   repeat first|refine aa ?_ |intro
   refine af rfl (KQ (by rw[vB.2];exact h.kind) (by rw[vB.1];exact h.first)) ?_
   intro _
   refine au.ia ?_
   repeat first|refine aa ?_ |intro
   rw[if_pos rfl]
   exact aH (aI rfl () rfl (U.sat (au.bD (by rfl) (U.trans (ab) (aF.shut (g:=g))))))
  |false=>
   repeat first|refine aa ?_ |intro
   rw[if_neg (by decide)]
   exact aH (aI rfl () rfl (U.sat (U.cons (U.trans (ab) (aF.shut (g:=g))))))
 ·have es:gG cs pl s=(cs,if cs.getD s.a 0=s.first then hO s 7 else pK {s with first:=cs.getD s.a 0} (cs.getD s.a 0) 1):=by unfold gG;simp only[e];rfl
  rw[es]
  repeat first|refine aa ?_ |intro
  refine iQ 8 rfl (by kernel_rfl) rfl rfl ?_
  repeat(refine cI ?_)
  refine af rfl (Spec.aL g (eJ g cs s.a (by omega) (by omega))) ?_
  intro _
  by_cases hu:cs.getD s.a 0=s.first
  ·rw[if_pos hu]
   repeat first|refine aa ?_ |intro
   refine af rfl (Spec.aL q (Spec.pre (ql (p:=q) (e:=7) (s:=s)) (au.bD (by rfl) (U.refl _)))) ?_
   intro _
   repeat first|refine aa ?_ |intro
   exact ae (cT rfl () rfl (U.sat (U.cons (U.trans (ab) (aF.shut (g:=g))))))
  ·rw[if_neg hu]
   repeat first|refine aa ?_ |intro
   refine af rfl (Spec.pre (Bk (p:=q) (s:={s with first:=cs.getD s.a 0}) (u:=cs.getD s.a 0) (nx:=1)) (au.bD (by rfl) (U.refl _))) ?_
   intro _
   repeat first|refine aa ?_ |intro
   exact aH (aI rfl () rfl (U.sat (U.cons (U.trans (ab) (aF.shut (g:=g))))))
 ·have es:gG cs pl s=if cs.getD s.a 0=s.first then(cs.set s.a (jm s.first s.id),hO {s with next:=0} 0)else(cs,{s with next:=0}):=by unfold gG;simp only[e];rfl
  rw[es]
  repeat first|refine aa ?_ |intro
  refine aG 99 (Obj p 192 [.pointer pp,.pointer g,.int .i64 (n:Int)]*(Obj q 327 (dB {s with next:=0})*1)) rfl rfl rfl ?_
  repeat(first|refine ak ?_ |refine eD ?_)
  refine aC rfl rfl rfl rfl rfl (HH (id:=s.id) h.first (h.link e).1 (by have:=h.rJ;have:=h.hZ;omega) (h.link e).2) (fun _=>ab) ?_
  intro _
  repeat(first|refine ak ?_ |refine eD ?_)
  refine aC rfl rfl rfl rfl rfl (Spec.aL g (kF g cs s.a s.first (jm s.first s.id) (by omega) (by omega))) (fun _=>ab) ?_
  intro _
  repeat(first|refine ak ?_ |refine eD ?_)
  by_cases hu:cs.getD s.a 0=s.first
  ·rw[if_pos hu,if_pos hu,decide_eq_true hu]
   repeat first|refine aa ?_ |intro
   refine af rfl (Spec.aL q (Spec.pre (ql (p:=q) (e:=0) (s:={s with next:=0})) (au.bD (by rfl) (U.refl _)))) ?_
   intro _
   repeat first|refine aa ?_ |intro
   exact aH (aI rfl () rfl (U.sat (U.cons (U.trans (ab) (aF.shut (g:=g))))))
  ·rw[if_neg hu,if_neg hu,decide_eq_false hu]
   repeat first|refine aa ?_ |intro
   refine aH (aI rfl () rfl (U.sat ?_))
   have hq:∀A B C:SL,A*(B*C)=B*(A*C):=fun A B C=>by ac_rfl
   rw[hq]
   exact au.bD (by rfl) (U.trans (ab) (aF.shut (g:=g)))
theorem q7:Spec Tryz.prog 150 [.pointer q] W (au q s*F) (fun _:Unit=> .int .i64 (s.end_:Int)) (fun _=>au q s*F):=by
 refine Spec.of Tryz.func150 rfl Tryz.ntmps150 rfl ?_
 refine au.open ?_
 repeat first|refine aa ?_ |intro
 exact ae (ar rfl rfl () rfl (U.sat (au.bD (by rfl) (U.refl _))))
theorem xr:Spec Tryz.prog 152 [.pointer q] W (au q s*F) (fun _:Unit=> .tuple #[.int .i64 s.found,hJ s.aM]) (fun _=>au q s*F):=by
 refine Spec.of Tryz.func152 rfl Tryz.ntmps152 rfl ?_
 refine au.open ?_
 repeat first|refine aa ?_ |intro
 refine aG 9 (Obj q 327 (dB s)*1) rfl rfl rfl ?_
 repeat(first|refine ak ?_ |refine eD ?_)
 repeat(first|refine bJ ?_ |(refine bN ?_;intro)|refine bK ?_ |refine bL ?_ |refine bM ?_ |refine eD ?_)
 repeat first|refine aa ?_ |intro
 refine ae (aZ (rs:=[.tmp 2,.cell 3 139]) (v:= .int .i64 s.found) (u:=hJ s.aM) (vs:=[]) rfl ⟨rfl,⟨_,rfl,aT.agg rfl⟩,trivial⟩ () rfl (U.sat ?_))
 exact U.trans U.drop (au.bD (by rfl) (U.refl _))
end
section
open Go.RowKit
set_option maxRecDepth 10000
attribute [local irreducible] EK EX ER EN EL ES EG av aV aY
variable {W:World} {F:SL} {X:Cx} {k:List KI} {σ:Env} {p pp g q:Option Addr} {ws cs pl:List Nat} {n np:Nat} {s:aR}
def kD (u:Nat)(id:Int):Nat:=kN u (dC u id).toNat 0
def ny (s:aR):Nat:=if s.second=true then s.b else s.a
def gR (s:aR):aR:=if s.second=true then {hO s 0 with second:=true}else {s with second:=true}
def fV (cs:List Nat)(s:aR):List Nat×aR:=
 if s.next=24 then
  if cs.getD (ny s) 0=s.word then(cs.set (ny s) (kD s.word s.id),gR {s with next:=23})else(cs,{s with next:=23})
 else if 0≤dC (cs.getD (ny s) 0) s.id∧0≤s.id then(cs,{s with word:=cs.getD (ny s) 0,next:=24})
 else(cs,gR {s with word:=cs.getD (ny s) 0})
structure JX (n:Nat)(cs:List Nat)(s:aR):Prop where
 sP:cs.length=n+1
 n2:n≤1024
 cw:∀j,cs.getD j 0<18446744073709551616
 a:s.a<n
 b:s.b<n
 next:s.next=23∨s.next=24
 word:s.word<18446744073709551616
 out:s.next=24→0≤dC s.word s.id
 done:s.done=false
theorem w7 {u:Nat}{id:Int}(hu:u<18446744073709551616)(h1:0≤dC u id):Spec Tryz.prog 241 [.int .u64 (u:Int),.int .i64 id] W F (fun _:Unit=> .int .u64 (kD u id:Int)) (fun _=>F):=by
 refine Spec.of Tryz.func241 rfl Tryz.ntmps241 rfl ?_
 have hw:=HB u id
 obtain⟨i,hi⟩:∃i:Nat,dC u id=(i:Int):=⟨(dC u id).toNat,by omega⟩
 have fz:kD u id=kN u i 0:=by unfold kD;rw[hi];rfl
 repeat first|refine aa ?_ |intro
 refine af rfl (qW _ hu) ?_
 intro _
 rw[hi]
 repeat first|refine aa ?_ |intro
 refine af rfl (Hj (v:=0) hu (by omega) (by decide)) ?_
 intro _
 repeat first|refine aa ?_ |intro
 exact ae (ar rfl rfl () (by rw[fz]) (U.sat U.last))
set_option maxHeartbeats 2000000 in
theorem LZ (h:JX n cs s):Spec Tryz.prog 195 [.pointer p,.pointer q] W (au q s*(aF p pp n cs*F)) (fun _:Unit=> .tuple #[])
  (fun _=>au q (fV cs s).2*(aF p pp n (fV cs s).1*F)):=by
 refine Spec.of Tryz.func195 rfl Tryz.ntmps195 rfl ?_
 have ha:=h.a
 have hb:=h.b
 have jW:=h.sP
 have jC:=h.n2
 have fy:=h.word
 refine cy p (aF.open fun g=> ?_)
 simp only[jR]
 refine cy q (au.open ?_)
 cases mc:s.second with
 |true=>
  have l5:ny s=s.b:=by unfold ny;rw[mc];rfl
  rcases h.next with e|e
  ·repeat first|refine aa ?_ |intro
   refine af rfl (Spec.aL g (eJ g cs s.b (by omega) (by omega))) ?_
   intro _
   have hu:=h.cw s.b
   obtain⟨t,ht⟩:∃t:aR,t={s with word:=cs.getD s.b 0}:=⟨_,rfl⟩
   have fe:t.word=cs.getD s.b 0:=by rw[ht]
   have iD:t.id=s.id:=by rw[ht]
   have Ao:t.second=s.second:=by rw[ht]
   repeat first|refine aa ?_ |intro
   refine iS (G:=Obj q 327 (dB t)*(bZ g cs*(Obj p 192 [.pointer pp,.pointer g,.int .i64 (n:Int)]*F))) (by rw[ht];dsimp only[dB];rw[mc];exact ab) ?_
   refine aG 99 (Obj q 327 (dB t)*1) rfl rfl rfl ?_
   repeat(first|refine ak ?_ |refine eD ?_)
   have Ap:t.word<18446744073709551616:=by rw[fe];exact hu
   refine aC rfl rfl rfl rfl rfl (qW t.id Ap) (fun _=>ab) ?_
   intro _
   have nO:t.second=true:=by rw[Ao,mc]
   by_cases hp:0≤dC t.word t.id
   ·by_cases hq:0≤t.id
    ·have hE:fV cs s=(cs,{t with next:=24}):=by unfold fV;rw[if_neg (show ¬s.next=24 by omega),l5,←fe,←iD,if_pos ⟨hp,hq⟩,ht]
     rw[hE]
     repeat(first|refine ak ?_ |refine eD ?_)
     repeat first|refine aa ?_ |intro
     exact ae (cT rfl () rfl (U.sat (au.bD (by rfl) (U.trans (ab) (aF.shut (g:=g))))))
    ·have hE:fV cs s=(cs,gR t):=by unfold fV;rw[if_neg (show ¬s.next=24 by omega),l5,←fe,←iD,if_neg (fun z=>hq z.2),ht]
     rw[hE]
     repeat(first|refine ak ?_ |refine eD ?_)
     repeat first|refine aa ?_ |intro
     refine sj (by rw[nO];rfl) ?_
     repeat first|refine aa ?_ |intro
     refine af rfl (Spec.aL q (Spec.pre (ql (p:=q) (e:=0) (s:=t)) (au.bD (by rfl) (U.refl _)))) ?_
     intro _
     refine au.ia ?_
     dsimp only[hO]
     repeat first|refine aa ?_ |intro
     have eg:gR t={hO t 0 with second:=true}:=by unfold gR;rw[if_pos nO]
     rw[eg]
     exact aH (aI rfl () rfl (U.sat (au.bD (by rfl) (U.trans (ab) (aF.shut (g:=g))))))
   ·have hE:fV cs s=(cs,gR t):=by unfold fV;rw[if_neg (show ¬s.next=24 by omega),l5,←fe,←iD,if_neg (fun z=>hp z.1),ht]
    rw[hE]
    repeat(first|refine ak ?_ |refine eD ?_)
    repeat first|refine aa ?_ |intro
    refine sj (by rw[nO];rfl) ?_
    repeat first|refine aa ?_ |intro
    refine af rfl (Spec.aL q (Spec.pre (ql (p:=q) (e:=0) (s:=t)) (au.bD (by rfl) (U.refl _)))) ?_
    intro _
    refine au.ia ?_
    dsimp only[hO]
    repeat first|refine aa ?_ |intro
    have eg:gR t={hO t 0 with second:=true}:=by unfold gR;rw[if_pos nO]
    rw[eg]
    exact aH (aI rfl () rfl (U.sat (au.bD (by rfl) (U.trans (ab) (aF.shut (g:=g))))))
  ·repeat first|refine aa ?_ |intro
   refine aG 99 (Obj p 192 [.pointer pp,.pointer g,.int .i64 (n:Int)]*(Obj q 327 (dB {s with next:=23,second:=true})*1)) rfl rfl rfl ?_
   repeat(first|refine ak ?_ |refine eD ?_)
   refine aC rfl rfl rfl rfl rfl (w7 (id:=s.id) fy (h.out e)) (fun _=>ab) ?_
   intro _
   repeat(first|refine ak ?_ |refine eD ?_)
   refine aC rfl rfl rfl rfl rfl (Spec.aL g (kF g cs s.b s.word (kD s.word s.id) (by omega) (by omega))) (fun _=>ab) ?_
   intro _
   repeat(first|refine ak ?_ |refine eD ?_)
   by_cases hu:cs.getD s.b 0=s.word
   ·have hE:fV cs s=(cs.set s.b (kD s.word s.id),gR {s with next:=23}):=by unfold fV;rw[if_pos e,l5,if_pos hu]
    rw[hE,if_pos hu,decide_eq_true hu]
    repeat first|refine aa ?_ |intro
    refine af rfl (Spec.aL q (Spec.pre (ql (p:=q) (e:=0) (s:={s with next:=23})) (au.bD (by unfold iL;rw[mc];rfl) (U.refl _)))) ?_
    intro _
    refine au.ia ?_
    dsimp only[hO]
    repeat first|refine aa ?_ |intro
    have eg:gR {s with next:=23}={hO {s with next:=23} 0 with second:=true}:=by unfold gR;rw[if_pos mc]
    rw[eg]
    exact aH (aI rfl () rfl (U.sat (au.bD (by rfl) (U.trans (ab) (aF.shut (g:=g))))))
   ·have hE:fV cs s=(cs,{s with next:=23}):=by unfold fV;rw[if_pos e,l5,if_neg hu]
    rw[hE,if_neg hu,decide_eq_false hu]
    repeat first|refine aa ?_ |intro
    refine ae (cT rfl () rfl (U.sat ?_))
    rw[show ∀A B C:SL,A*(B*C)=B*(A*C)from fun A B C=>by ac_rfl]
    exact au.bD (by unfold iL;dsimp only;rw[mc];rfl) (U.trans (ab) (aF.shut (g:=g)))
 |false=>
  have l5:ny s=s.a:=by unfold ny;rw[mc];rfl
  rcases h.next with e|e
  ·repeat first|refine aa ?_ |intro
   refine af rfl (Spec.aL g (eJ g cs s.a (by omega) (by omega))) ?_
   intro _
   have hu:=h.cw s.a
   obtain⟨t,ht⟩:∃t:aR,t={s with word:=cs.getD s.a 0}:=⟨_,rfl⟩
   have fe:t.word=cs.getD s.a 0:=by rw[ht]
   have iD:t.id=s.id:=by rw[ht]
   have Ao:t.second=s.second:=by rw[ht]
   repeat first|refine aa ?_ |intro
   refine iS (G:=Obj q 327 (dB t)*(bZ g cs*(Obj p 192 [.pointer pp,.pointer g,.int .i64 (n:Int)]*F))) (by rw[ht];dsimp only[dB];rw[mc];exact ab) ?_
   refine aG 99 (Obj q 327 (dB t)*1) rfl rfl rfl ?_
   repeat(first|refine ak ?_ |refine eD ?_)
   have Ap:t.word<18446744073709551616:=by rw[fe];exact hu
   refine aC rfl rfl rfl rfl rfl (qW t.id Ap) (fun _=>ab) ?_
   intro _
   have nO:t.second=false:=by rw[Ao,mc]
   by_cases hp:0≤dC t.word t.id
   ·by_cases hq:0≤t.id
    ·have hE:fV cs s=(cs,{t with next:=24}):=by unfold fV;rw[if_neg (show ¬s.next=24 by omega),l5,←fe,←iD,if_pos ⟨hp,hq⟩,ht]
     rw[hE]
     repeat(first|refine ak ?_ |refine eD ?_)
     repeat first|refine aa ?_ |intro
     exact ae (cT rfl () rfl (U.sat (au.bD (by rfl) (U.trans (ab) (aF.shut (g:=g))))))
    ·have hE:fV cs s=(cs,gR t):=by unfold fV;rw[if_neg (show ¬s.next=24 by omega),l5,←fe,←iD,if_neg (fun z=>hq z.2),ht]
     rw[hE]
     repeat(first|refine ak ?_ |refine eD ?_)
     repeat first|refine aa ?_ |intro
     refine si (by rw[nO];rfl) ?_
     repeat first|refine aa ?_ |intro
     have eg:gR t={t with second:=true}:=by unfold gR;rw[if_neg (by rw[nO];decide)]
     rw[eg]
     exact aH (aI rfl () rfl (U.sat (au.bD (by rfl) (U.trans (ab) (aF.shut (g:=g))))))
   ·have hE:fV cs s=(cs,gR t):=by unfold fV;rw[if_neg (show ¬s.next=24 by omega),l5,←fe,←iD,if_neg (fun z=>hp z.1),ht]
    rw[hE]
    repeat(first|refine ak ?_ |refine eD ?_)
    repeat first|refine aa ?_ |intro
    refine si (by rw[nO];rfl) ?_
    repeat first|refine aa ?_ |intro
    have eg:gR t={t with second:=true}:=by unfold gR;rw[if_neg (by rw[nO];decide)]
    rw[eg]
    exact aH (aI rfl () rfl (U.sat (au.bD (by rfl) (U.trans (ab) (aF.shut (g:=g))))))
  ·repeat first|refine aa ?_ |intro
   refine aG 99 (Obj p 192 [.pointer pp,.pointer g,.int .i64 (n:Int)]*(Obj q 327 (dB {s with next:=23,second:=false})*1)) rfl rfl rfl ?_
   repeat(first|refine ak ?_ |refine eD ?_)
   refine aC rfl rfl rfl rfl rfl (w7 (id:=s.id) fy (h.out e)) (fun _=>ab) ?_
   intro _
   repeat(first|refine ak ?_ |refine eD ?_)
   refine aC rfl rfl rfl rfl rfl (Spec.aL g (kF g cs s.a s.word (kD s.word s.id) (by omega) (by omega))) (fun _=>ab) ?_
   intro _
   repeat(first|refine ak ?_ |refine eD ?_)
   by_cases hu:cs.getD s.a 0=s.word
   ·have hE:fV cs s=(cs.set s.a (kD s.word s.id),gR {s with next:=23}):=by unfold fV;rw[if_pos e,l5,if_pos hu]
    rw[hE,if_pos hu,decide_eq_true hu]
    repeat first|refine aa ?_ |intro
    have eg:gR {s with next:=23}={{s with next:=23}with second:=true}:=by unfold gR;rw[if_neg (by rw[mc];decide)]
    rw[eg]
    exact aH (aI rfl () rfl (U.sat (au.bD (by rfl) (U.trans (ab) (aF.shut (g:=g))))))
   ·have hE:fV cs s=(cs,{s with next:=23}):=by unfold fV;rw[if_pos e,l5,if_neg hu]
    rw[hE,if_neg hu,decide_eq_false hu]
    repeat first|refine aa ?_ |intro
    refine ae (cT rfl () rfl (U.sat ?_))
    rw[show ∀A B C:SL,A*(B*C)=B*(A*C)from fun A B C=>by ac_rfl]
    exact au.bD (by unfold iL;dsimp only;rw[mc];rfl) (U.trans (ab) (aF.shut (g:=g)))
end
section
open Go.RowKit
set_option maxRecDepth 10000
attribute [local irreducible] EK EX ER EN EL ES EG av aV aY
variable {W:World} {F:SL} {X:Cx} {k:List KI} {σ:Env} {p pp g q:Option Addr} {ws cs pl:List Nat} {n np:Nat} {s:aR} {m:dG}
structure dG.Ok (m:dG):Prop where
 phase:m.phase<4
 id:m.id<4096
 fr:m.fr<1024
 to:m.to<1024
 version:m.version<65536
 aK:m.aK≤16384
def j0 (u:Nat):dG:=⟨u%4,u/4%4096,u/16384%1024,u/16777216%1024,u/17179869184%65536,u/1125899906842624⟩
def iH (m:dG):Nat:=m.phase+m.id*4+m.fr*16384+m.to*16777216+m.version*17179869184+m.aK%16384*1125899906842624
abbrev v8 (m:dG):Value:= .agg #[.int .i64 (m.phase:Int),.int .i64 (m.id:Int),.int .i64 (m.fr:Int),.int .i64 (m.to:Int),.int .i64 (m.version:Int),.int .i64 (m.aK:Int)]
theorem Qm {u:Nat}(h:u<18446744073709551616):(j0 u).Ok:=by
 unfold j0
 exact⟨by dsimp only;omega,by dsimp only;omega,by dsimp only;omega,by dsimp only;omega,by dsimp only;omega,by dsimp only;omega⟩
theorem Ht {u:Nat}(hu:u<18446744073709551616):Spec Tryz.prog 245 [.int .u64 (u:Int)] W F (fun _:Unit=> .int .i64 ((u/281474976710656:Nat):Int)) (fun _=>F):=by
 refine Spec.of Tryz.func245 rfl Tryz.ntmps245 rfl ?_
 repeat first|refine aa ?_ |intro
 exact ae (ar rfl rfl () (by rw[show(u:Int)/2^Int.toNat 48=((u/281474976710656:Nat):Int)from ky u 48,jZ (by omega)]) (U.sat U.last))
theorem Qq {u:Nat}(hu:u<18446744073709551616):(Value.agg #[.int .i64 (IntKind.i64.wrap (bits .and .u64 (u:Int) 3)),.int .i64 (IntKind.i64.wrap (bits .and .u64 ((u:Int)/2^Int.toNat 2) 4095)),.int .i64 (IntKind.i64.wrap (bits .and .u64 ((u:Int)/2^Int.toNat 14) 1023)),
  .int .i64 (IntKind.i64.wrap (bits .and .u64 ((u:Int)/2^Int.toNat 24) 1023)),.int .i64 (IntKind.i64.wrap (bits .and .u64 ((u:Int)/2^Int.toNat 34) 65535)),.int .i64 (IntKind.i64.wrap ((u:Int)/2^Int.toNat 50))])=v8 (j0 u):=by
 rw[show bits .and .u64 (u:Int) 3=((u%2^2:Nat):Int)from og 2 hu (by decide),show(u:Int)/2^Int.toNat 2=((u/2^2:Nat):Int)from ky u 2,show(u:Int)/2^Int.toNat 14=((u/2^14:Nat):Int)from ky u 14,show(u:Int)/2^Int.toNat 24=((u/2^24:Nat):Int)from ky u 24,
  show(u:Int)/2^Int.toNat 34=((u/2^34:Nat):Int)from ky u 34,show(u:Int)/2^Int.toNat 50=((u/2^50:Nat):Int)from ky u 50,
  show bits .and .u64 ((u/2^2:Nat):Int) 4095=((u/2^2%2^12:Nat):Int)from og 12 (by omega) (by decide),show bits .and .u64 ((u/2^14:Nat):Int) 1023=((u/2^14%2^10:Nat):Int)from og 10 (by omega) (by decide),
  show bits .and .u64 ((u/2^24:Nat):Int) 1023=((u/2^24%2^10:Nat):Int)from og 10 (by omega) (by decide),show bits .and .u64 ((u/2^34:Nat):Int) 65535=((u/2^34%2^16:Nat):Int)from og 16 (by omega) (by decide),
  jZ (by omega),jZ (by omega),jZ (by omega),jZ (by omega),jZ (by omega),jZ (by omega)]
 rfl
theorem tQ {u:Nat}(hu:u<18446744073709551616):Spec Tryz.prog 248 [.int .u64 (u:Int)] W F (fun _:Unit=>v8 (j0 u)) (fun _=>F):=by
 refine Spec.of Tryz.func248 rfl Tryz.ntmps248 rfl ?_
 repeat first|refine aa ?_ |intro
 exact ae (js (rv:= .cell 2 323) rfl ⟨_,rfl,aT.agg rfl⟩ () (Qq hu) (U.sat U.last))
theorem Ql {m:dG}(h:m.Ok):bits .or .u64 (bits .or .u64 (bits .or .u64 (bits .or .u64 (bits .or .u64 (m.phase:Int) (IntKind.u64.wrap ((m.id:Int)*2^Int.toNat 2))) (IntKind.u64.wrap ((m.fr:Int)*2^Int.toNat 14))) (IntKind.u64.wrap ((m.to:Int)*2^Int.toNat 24))) (IntKind.u64.wrap ((m.version:Int)*2^Int.toNat 34))) (IntKind.u64.wrap ((m.aK:Int)*2^Int.toNat 50))=(iH m:Int):=by
 obtain⟨h1,h2,h3,h4,h5,h6⟩:=h
 rw[show IntKind.u64.wrap ((m.id:Int)*2^Int.toNat 2)=((m.id*2^2:Nat):Int)from lE m.id 2 (by omega),show IntKind.u64.wrap ((m.fr:Int)*2^Int.toNat 14)=((m.fr*2^14:Nat):Int)from lE m.fr 14 (by omega),
  show IntKind.u64.wrap ((m.to:Int)*2^Int.toNat 24)=((m.to*2^24:Nat):Int)from lE m.to 24 (by omega),show IntKind.u64.wrap ((m.version:Int)*2^Int.toNat 34)=((m.version*2^34:Nat):Int)from lE m.version 34 (by omega),
  show IntKind.u64.wrap ((m.aK:Int)*2^Int.toNat 50)=((m.aK%16384*2^50:Nat):Int)by rw[IntKind.wrap_u64,show(2:Int)^Int.toNat 50=1125899906842624 from rfl];omega,
  pL (by omega) (by omega),pL (by omega) (by omega),pL (by omega) (by omega),pL (by omega) (by omega),pL (by omega) (by omega)]
 rfl
theorem tP (h:m.Ok):Spec Tryz.prog 254 [v8 m] W F (fun _:Unit=> .int .u64 (iH m:Int)) (fun _=>F):=by
 refine Spec.of Tryz.func254 rfl Tryz.ntmps254 rfl ?_
 have h':=h
 obtain⟨h1,h2,h3,h4,h5,h6⟩:=h'
 repeat first|refine aa ?_ |intro
 exact ae (ar rfl rfl () (by rw[Ql h]) (U.sat U.last))
theorem Qj (h:m.aK<16384):Spec Tryz.prog 290 [v8 m] W F (fun _:Unit=> .int .u64 (iH ⟨0,0,0,0,0,m.aK+1⟩:Int)) (fun _=>F):=by
 refine Spec.of Tryz.func290 rfl Tryz.ntmps290 rfl ?_
 repeat first|refine aa ?_ |intro
 refine af rfl (tP (m:=⟨0,0,0,0,0,m.aK+1⟩) ⟨by dsimp only;omega,by dsimp only;omega,by dsimp only;omega,by dsimp only;omega,by dsimp only;omega,by dsimp only;omega⟩) ?_
 intro _
 repeat first|refine aa ?_ |intro
 exact ae (ar rfl rfl () rfl (U.sat U.last))
def Gj (pl:List Nat)(n id bucket:Nat):Nat:=if(gh (pl.getD (2*id+1) 0) n).1=bucket then(gh (pl.getD (2*id+1) 0) n).2 else(gh (pl.getD (2*id+1) 0) n).1
theorem QY {id bk:Nat}(hf:eK (n:Int)=true)(gn:pl.length=2*np)(cg:np≤3072)(hid:id<np)(hw:∀j,pl.getD j 0<18446744073709551616):Spec Tryz.prog 249 [.pointer p,.int .i64 (id:Int),.int .i64 (bk:Int)] W (Obj p 192 [.pointer pp,.pointer g,.int .i64 (n:Int)]*(aJ pp pl*F))
  (fun _:Unit=> .int .i64 (Gj pl n id bk:Int)) (fun _=>Obj p 192 [.pointer pp,.pointer g,.int .i64 (n:Int)]*(aJ pp pl*F)):=by
 refine Spec.of Tryz.func249 rfl Tryz.ntmps249 rfl ?_
 repeat first|refine aa ?_ |intro
 refine aG 99 (Obj p 192 [.pointer pp,.pointer g,.int .i64 (n:Int)]*1) rfl rfl rfl ?_
 repeat(first|refine ak ?_ |refine eD ?_)
 refine aC rfl rfl rfl rfl rfl (Spec.aL pp (yJ gn cg hid hw)) (fun _=>ab) ?_
 intro _
 repeat(first|refine ak ?_ |refine eD ?_)
 have hk:=hw (2*id+1)
 unfold Gj
 generalize pl.getD (2*id+1) 0=key at*
 have pk:nZ ((key/281474976710656:Nat):Int) (key/65536%4294967296) (key%65536) (n:Int)=(((gh key n).1:Int),((gh key n).2:Int)):=by
  unfold nZ tN
  rw[if_pos hf,show fM (((key/281474976710656:Nat):Int)%65536).toNat (key/65536%4294967296) (key%65536)=key by unfold fM;omega]
  rfl
 refine aC rfl rfl rfl rfl rfl (Cq _ _ (by omega) (by omega)) (fun _=>ab) ?_
 intro _
 rw[pk]
 repeat(first|refine ak ?_ |refine eD ?_)
 by_cases hb:(gh key n).1=bk
 ·repeat first|refine aa ?_ |intro
  rw[if_pos hb]
  exact ae (ar rfl rfl () rfl (U.sat (ab)))
 ·repeat first|refine aa ?_ |intro
  rw[if_neg hb]
  exact ae (ar rfl rfl () rfl (U.sat (ab)))
def MY (s:aR)(id fr to u:Nat):aR:={s with m:=⟨1,id,fr,to,u/281474976710656,(j0 s.still).aK⟩,next:=12}
theorem MZ {id fr to u:Nat}(hu:u<18446744073709551616)(hs:s.still<18446744073709551616):Spec Tryz.prog 252 [.pointer q,.int .i64 (id:Int),.int .i64 (fr:Int),.int .i64 (to:Int),.int .u64 (u:Int)] W (au q s*F) (fun _:Unit=> .tuple #[]) (fun _=>au q (MY s id fr to u)*F):=by
 refine Spec.of Tryz.func252 rfl Tryz.ntmps252 rfl ?_
 refine au.open ?_
 repeat first|refine aa ?_ |intro
 refine aG 15 (Obj q 327 (dB s)*1) rfl rfl rfl ?_
 repeat(first|refine ak ?_ |refine eD ?_)
 refine aC rfl rfl rfl rfl rfl (Ht hu) (fun _=>ab) ?_
 intro _
 repeat(first|refine ak ?_ |refine eD ?_)
 refine aC rfl rfl rfl rfl rfl (tQ hs) (fun _=>ab) ?_
 intro _
 repeat(first|refine ak ?_ |refine eD ?_)
 repeat(first|refine bJ ?_ |(refine bN ?_;intro)|refine bK ?_ |refine bL ?_ |refine bM ?_ |refine eD ?_)
 repeat first|refine aa ?_ |intro
 exact aH (aI rfl () rfl (U.sat (au.bD (by rfl) (U.refl _))))
def qR (s:aR)(u yes no:Nat):aR:={s with word:=u,next:=if 0≤dC u (s.m.id:Int)then yes else no}
theorem Hb {u yes no:Nat}(hu:u<18446744073709551616):Spec Tryz.prog 246 [.pointer q,.int .u64 (u:Int),.int .i64 (yes:Int),.int .i64 (no:Int)] W (au q s*F) (fun _:Unit=> .tuple #[]) (fun _=>au q (qR s u yes no)*F):=by
 refine Spec.of Tryz.func246 rfl Tryz.ntmps246 rfl ?_
 refine au.open ?_
 repeat first|refine aa ?_ |intro
 refine af rfl (qW _ hu) ?_
 intro _
 by_cases hw:0≤dC u (s.m.id:Int)
 ·repeat first|refine aa ?_ |intro
  have e:qR s u yes no={s with word:=u,next:=yes}:=by unfold qR;rw[if_pos hw]
  rw[e]
  exact aH (aI rfl () rfl (U.sat (au.bD (by rfl) (U.refl _))))
 ·repeat first|refine aa ?_ |intro
  have e:qR s u yes no={s with word:=u,next:=no}:=by unfold qR;rw[if_neg hw]
  rw[e]
  exact aH (aI rfl () rfl (U.sat (au.bD (by rfl) (U.refl _))))
end
section
open Go.RowKit
set_option maxRecDepth 10000
attribute [local irreducible] EK EX ER EN EL ES EG av aV aY
variable {W:World} {F:SL} {X:Cx} {k:List KI} {σ:Env} {p pp g q:Option Addr} {ws cs pl:List Nat} {n np:Nat} {s:aR} {m:dG}
abbrev cP (p pp g:Option Addr)(n:Nat):SL:=Obj p 192 [.pointer pp,.pointer g,.int .i64 (n:Int)]
abbrev fC (m:dG):List Value:=[.int .i64 (m.phase:Int),.int .i64 (m.id:Int),.int .i64 (m.fr:Int),.int .i64 (m.to:Int),.int .i64 (m.version:Int),.int .i64 (m.aK:Int)]
theorem Qp {a b:dG}:(!@decide (fC a=fC b) (Classical.propDecidable _))= !decide (a=b):=by
 obtain⟨a1,a2,a3,a4,a5,a6⟩:=a
 obtain⟨b1,b2,b3,b4,b5,b6⟩:=b
 congr 1
 rw[decide_eq_decide]
 simp only[fC,List.cons.injEq,Value.int.injEq,dG.mk.injEq,and_true,true_and,Int.natCast_inj]
def zg (cs:List Nat)(n:Nat)(s:aR):aR:=
 if(j0 (cs.getD n 0)).phase=0∨{j0 (cs.getD n 0)with phase:=s.m.phase}≠s.m then {s with next:=0}
 else {s with m:={s.m with phase:=(j0 (cs.getD n 0)).phase},next:=if(j0 (cs.getD n 0)).phase=1 then 14 else if(j0 (cs.getD n 0)).phase=2 then 17 else 19}
set_option maxHeartbeats 1000000 in
theorem Mt (jW:cs.length=n+1)(jC:n≤1024)(hw:∀j,cs.getD j 0<18446744073709551616):Spec Tryz.prog 244 [.pointer p,.pointer q] W (au q s*(cP p pp g n*(bZ g cs*F))) (fun _:Unit=> .tuple #[])
  (fun _=>au q (zg cs n s)*(cP p pp g n*(bZ g cs*F))):=by
 refine Spec.of Tryz.func244 rfl Tryz.ntmps244 rfl ?_
 have tl:=Qm (hw n)
 have fz:=hw n
 refine pV ?_
 refine mq (γ:=Option Addr) (fun _=>True) (fun x=>[(0,.pointer p),(1,.pointer q),(4,.pointer x)]) (fun x=>Obj x 323 (fC (j0 (cs.getD n 0)))*(au q s*(cP p pp g n*(bZ g cs*F)))) ?_ ?_
 ·repeat first|refine aa ?_ |intro
  refine aG 11 (cP p pp g n*1) rfl rfl rfl ?_
  repeat(first|refine ak ?_ |refine eD ?_)
  refine oE (i:=8) (j:=10) (pS rfl rfl rfl rfl (Spec.aL g (eJ g cs n (by omega) (by omega))) (fun _=>ab) ?_) (pT rfl rfl (nm rfl) rfl (fun _=>ab) ?_)
  ·intro _
   refine oE (i:=9) (j:=10) (pS rfl rfl rfl rfl (tQ fz) (fun _=>ab) ?_) (pT rfl rfl (nm rfl) rfl (fun _=>ab) ?_)
   ·intro _
    repeat(first|refine bJ ?_ |(refine bN ?_;intro)|refine bK ?_ |refine bL ?_ |refine bM ?_ |refine eD ?_)
    rename_i x
    repeat first|refine aa ?_ |intro
    exact fv x trivial ⟨rfl,rfl,rfl,trivial⟩ (U.sat (ab))
   ·intro x
    refine aC rfl rfl rfl rfl rfl (tQ fz) (fun _=>ab) ?_
    intro _
    repeat(first|refine bJ ?_ |(refine bN ?_;intro)|refine bK ?_ |refine bL ?_ |refine bM ?_ |refine eD ?_)
    repeat first|refine aa ?_ |intro
    exact fv x trivial ⟨rfl,rfl,rfl,trivial⟩ (U.sat (ab))
  ·intro x
   refine aC rfl rfl rfl rfl rfl (Spec.aL g (eJ g cs n (by omega) (by omega))) (fun _=>ab) ?_
   intro _
   refine aC rfl rfl rfl rfl rfl (tQ fz) (fun _=>ab) ?_
   intro _
   repeat(first|refine bJ ?_ |(refine bN ?_;intro)|refine bK ?_ |refine bL ?_ |refine bM ?_ |refine eD ?_)
   repeat first|refine aa ?_ |intro
   exact fv x trivial ⟨rfl,rfl,rfl,trivial⟩ (U.sat (ab))
 intro x _
 unfold zg
 generalize j0 (cs.getD n 0)=m at*
 refine cy q (au.open ?_)
 by_cases hp:m.phase=0
 ·repeat first|refine aa ?_ |intro
  refine aG 99 1 rfl rfl rfl ?_
  repeat(first|refine ak ?_ |refine eD ?_)
  repeat first|refine aa ?_ |intro
  rw[if_pos (.inl hp)]
  exact ae (cT rfl () rfl (U.sat (au.bD (by rfl) (ab))))
 ·repeat first|refine aa ?_ |intro
  refine aG 99 (Obj x 323 (fC {m with phase:=s.m.phase})*(Obj q 327 (dB s)*1)) rfl rfl rfl ?_
  repeat(first|refine ak ?_ |refine eD ?_)
  rw[Qp]
  by_cases hm:{m with phase:=s.m.phase}=s.m
  ·rw[if_neg (fun e=>e.elim hp (fun e=>e hm)),decide_eq_true hm]
   by_cases h1:m.phase=1
   ·repeat first|refine aa ?_ |intro
    rw[if_pos h1]
    exact aH (aI rfl () rfl (U.sat (au.bD (by rfl) (ab))))
   ·by_cases h2:m.phase=2
    ·repeat first|refine aa ?_ |intro
     rw[if_neg h1,if_pos h2]
     exact aH (aI rfl () rfl (U.sat (au.bD (by rfl) (ab))))
    ·repeat first|refine aa ?_ |intro
     rw[if_neg h1,if_neg h2]
     exact aH (aI rfl () rfl (U.sat (au.bD (by rfl) (ab))))
  ·rw[if_pos (.inr hm),decide_eq_false hm]
   repeat first|refine aa ?_ |intro
   exact ae (cT rfl () rfl (U.sat (au.bD (by rfl) (ab))))
end
end Go.Proofs.YtimekbpkejemoaaGreatDoor
