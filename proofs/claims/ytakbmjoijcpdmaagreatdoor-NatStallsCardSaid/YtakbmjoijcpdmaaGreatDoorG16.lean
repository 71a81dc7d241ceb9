/-
  A part of a proof, joined by a program (wip/bundle3.py).
-/
import Derived.Test.YtakbmjoijcpdmaaGreatDoorG7
import Derived.Test.YtakbmjoijcpdmaaGreatDoorG8
import Derived.Test.YtakbmjoijcpdmaaGreatDoorG9
import Derived.Test.YtakbmjoijcpdmaaGreatDoorG12
import Derived.Test.YtakbmjoijcpdmaaGreatDoorG13
import Derived.Test.YtakbmjoijcpdmaaGreatDoorG14
import Derived.Test.YtakbmjoijcpdmaaGreatDoorG15
set_option linter.unusedVariables false
set_option linter.unusedSimpArgs false
namespace Go.Proofs.YtakbmjoijcpdmaaGreatDoor
section
open Go.RowKit
set_option maxRecDepth 10000
attribute [local irreducible] EK EX ER EN EL ES EG az ba bf
variable {W:World} {F:SL} {X:Cx} {k:List KI} {σ:Env} {q b:Option Addr} {f:aH} {x:gR}
def bu {α:Type}(C:α→SL):Option α→SL
 | .none=>1
 | .some a=>C a
theorem ia {α:Type}{C:α→SL}{G:SL}:bu C .none*G=G:=by
 show 1*G=G
 rw[SL.tO 1,SL.oD]
theorem cy {α:Type}{C:α→SL}{a:α}{G:SL}:bu C (.some a)*G=C a*G:=rfl
structure pJ where
 b:aP
 bE:Option Addr
 find:Option Addr
 fill:Option Addr
 fin:Option Addr
 again:Option Addr
 nX:Option Addr
 enter:Option Addr
 ga:aP
def gO (p i:Option Addr)(x:j5):SL:=if x.kind≤1 then fe p x.kind i x.done*bn i x.bG else if x.kind=2 then fe p 2 i x.done else fe p 3 none x.done
abbrev cF (f:aH)(P:pJ):List Value:=(Value.bool f.out::Value.slice P.b.1 f.b.length P.b.2::Value.int .i64 f.tick::Value.int .i64 (f.next:Int)::Value.int .i64 (f.ar.proto:Int)::Value.int .u32 (f.ar.addr:Int)::Value.int .u16 (f.ar.port:Int)::Value.int .i64 (f.part.proto:Int)::Value.int .u16 (f.part.sp:Int)::Value.int .u16 (f.part.dp:Int)::Value.int .i64 (f.part.flags:Int)::Value.int .i64 (f.part.kind:Int)::Value.int .i64 (f.part.code:Int)::Value.bool f.part.err::Value.int .i64 (f.part.inner.size:Int)::Value.int .i64 (f.part.inner.len:Int)::Value.int .i64 (f.part.inner.eV:Int)::Value.int .i64 (f.part.inner.proto:Int)::Value.int .u32 (f.part.inner.src:Int)::Value.int .u32 (f.part.inner.dst:Int)::Value.int .i64 (f.part.pos:Int)::Value.bool f.part.bare::Value.bool f.fW::Value.pointer P.bE::Value.pointer P.find::Value.pointer P.fill::Value.pointer P.again::Value.pointer P.enter::Value.int .i64 f.id::Value.int .i64 (f.word.st:Int)::Value.int .i64 (f.word.gen:Int)::Value.int .i64 (f.word.tr:Int)::Value.int .i64 (f.word.sn:Int)::Value.int .i64 (f.now.st:Int)::Value.int .i64 (f.now.gen:Int)::Value.int .i64 (f.now.tr:Int)::Value.int .i64 (f.now.sn:Int)::Value.int .i64 (f.dU.proto:Int)::Value.int .u32 (f.dU.addr:Int)::Value.int .u16 (f.dU.port:Int)::Value.bool f.made::Value.int .i64 (f.fY:Int)::Value.bool f.pinned::Value.slice P.ga.1 f.fD.length P.ga.2::Value.int .i64 (f.lH:Int)::Value.bool f.done::[])
def uc (f:aH)(P:pJ):List Value:=(Value.bool f.out::Value.slice P.b.1 f.b.length P.b.2::Value.int .i64 f.tick::Value.int .i64 (f.next:Int)::Value.int .i64 (f.ar.proto:Int)::Value.int .u32 (f.ar.addr:Int)::Value.int .u16 (f.ar.port:Int)::Value.int .i64 (f.part.proto:Int)::Value.int .u16 (f.part.sp:Int)::Value.int .u16 (f.part.dp:Int)::Value.int .i64 (f.part.flags:Int)::Value.int .i64 (f.part.kind:Int)::Value.int .i64 (f.part.code:Int)::Value.bool f.part.err::Value.int .i64 (f.part.inner.size:Int)::Value.int .i64 (f.part.inner.len:Int)::Value.int .i64 (f.part.inner.eV:Int)::Value.int .i64 (f.part.inner.proto:Int)::Value.int .u32 (f.part.inner.src:Int)::Value.int .u32 (f.part.inner.dst:Int)::Value.int .i64 (f.part.pos:Int)::Value.bool f.part.bare::Value.bool f.fW::Value.pointer P.bE::Value.pointer P.find::Value.pointer P.fill::Value.pointer P.again::Value.pointer P.enter::Value.int .i64 f.id::Value.int .i64 (f.word.st:Int)::Value.int .i64 (f.word.gen:Int)::Value.int .i64 (f.word.tr:Int)::Value.int .i64 (f.word.sn:Int)::Value.int .i64 (f.now.st:Int)::Value.int .i64 (f.now.gen:Int)::Value.int .i64 (f.now.tr:Int)::Value.int .i64 (f.now.sn:Int)::Value.int .i64 (f.dU.proto:Int)::Value.int .u32 (f.dU.addr:Int)::Value.int .u16 (f.dU.port:Int)::Value.bool f.made::Value.int .i64 (f.fY:Int)::Value.bool f.pinned::Value.slice P.ga.1 f.fD.length P.ga.2::Value.int .i64 (f.lH:Int)::Value.bool f.done::[])
abbrev cr (q:Option Addr)(f:aH)(P:pJ)(F:SL):SL:=Obj q 80 (Value.bool f.out::Value.slice P.b.1 f.b.length P.b.2::Value.int .i64 f.tick::Value.int .i64 (f.next:Int)::Value.int .i64 (f.ar.proto:Int)::Value.int .u32 (f.ar.addr:Int)::Value.int .u16 (f.ar.port:Int)::Value.int .i64 (f.part.proto:Int)::Value.int .u16 (f.part.sp:Int)::Value.int .u16 (f.part.dp:Int)::Value.int .i64 (f.part.flags:Int)::Value.int .i64 (f.part.kind:Int)::Value.int .i64 (f.part.code:Int)::Value.bool f.part.err::Value.int .i64 (f.part.inner.size:Int)::Value.int .i64 (f.part.inner.len:Int)::Value.int .i64 (f.part.inner.eV:Int)::Value.int .i64 (f.part.inner.proto:Int)::Value.int .u32 (f.part.inner.src:Int)::Value.int .u32 (f.part.inner.dst:Int)::Value.int .i64 (f.part.pos:Int)::Value.bool f.part.bare::Value.bool f.fW::Value.pointer P.bE::Value.pointer P.find::Value.pointer P.fill::Value.pointer P.again::Value.pointer P.enter::Value.int .i64 f.id::Value.int .i64 (f.word.st:Int)::Value.int .i64 (f.word.gen:Int)::Value.int .i64 (f.word.tr:Int)::Value.int .i64 (f.word.sn:Int)::Value.int .i64 (f.now.st:Int)::Value.int .i64 (f.now.gen:Int)::Value.int .i64 (f.now.tr:Int)::Value.int .i64 (f.now.sn:Int)::Value.int .i64 (f.dU.proto:Int)::Value.int .u32 (f.dU.addr:Int)::Value.int .u16 (f.dU.port:Int)::Value.bool f.made::Value.int .i64 (f.fY:Int)::Value.bool f.pinned::Value.slice P.ga.1 f.fD.length P.ga.2::Value.int .i64 (f.lH:Int)::Value.bool f.done::[])*(ao 5 1 P.b.1 f.b.length P.b.2 (aA f.b)*(bu (cD P.bE) f.bE*(bu (ay P.find) f.find*(bu (gO P.fill P.fin) f.fill*(bu (gO P.again P.nX) f.again*(bu (ay P.enter) f.enter*(ao 5 1 P.ga.1 f.fD.length P.ga.2 (aA f.fD)*F)))))))
def qT (q:Option Addr)(f:aH)(P:pJ):SL:=Obj q 80 (uc f P)*(ao 5 1 P.b.1 f.b.length P.b.2 (aA f.b)*(bu (cD P.bE) f.bE*(bu (ay P.find) f.find*(bu (gO P.fill P.fin) f.fill*(bu (gO P.again P.nX) f.again*(bu (ay P.enter) f.enter*(ao 5 1 P.ga.1 f.fD.length P.ga.2 (aA f.fD))))))))
def aG (q:Option Addr)(f:aH):SL:=SL.ex (qT q f)
theorem qT.eq (q:Option Addr)(f:aH)(P:pJ)(F:SL):qT q f P*F=cr q f P F:=by
 unfold qT cr
 simp only[SL.cb]
 rfl
theorem aG.open (h:∀P,EK X k σ (cr q f P F)):EK X k σ (aG q f*F):=nT fun P=>by
 rw[qT.eq];exact h P
theorem aG.jx {ops o:List Oper}(h:∀P,EL X k ops o σ (cr q f P F)):EL X k ops o σ (aG q f*F):=Ol fun P=>by
 rw[qT.eq];exact h P
theorem aG.shut (P:pJ){l:List Value}{G:SL}(h:l=uc f P)(hG:U G (ao 5 1 P.b.1 f.b.length P.b.2 (aA f.b)*(bu (cD P.bE) f.bE*(bu (ay P.find) f.find*(bu (gO P.fill P.fin) f.fill*(bu (gO P.again P.nX) f.again*(bu (ay P.enter) f.enter*(ao 5 1 P.ga.1 f.fD.length P.ga.2 (aA f.fD)*F)))))))):U (Obj q 80 l*G) (aG q f*F):=
 U.ex P (by
  subst h
  rw[qT.eq]
  exact U.star (U.refl _) hG)
theorem aG.bW (P:pJ){H F':SL}{l:List Value}[r:bO H q (Obj q 80 l) F'](h:l=uc f P)(hG:U F' (ao 5 1 P.b.1 f.b.length P.b.2 (aA f.b)*(bu (cD P.bE) f.bE*(bu (ay P.find) f.find*(bu (gO P.fill P.fin) f.fill*(bu (gO P.again P.nX) f.again*(bu (ay P.enter) f.enter*(ao 5 1 P.ga.1 f.fD.length P.ga.2 (aA f.fD)*F)))))))):U H (aG q f*F):=by
 rw[r.eq]
 exact aG.shut P h hG
instance (priority:=2000)(q:Option Addr)(f:aH)(F:SL):bO (aG q f*F) q (aG q f) F:=⟨rfl⟩
instance (q:Option Addr)(f:aH):kR (aG q f) q:=⟨fun W w F H=>by
 obtain⟨P,H⟩:=H.iX
 rw[qT.eq]at H
 exact(Obj.root q _ _).nn W w _ H⟩
structure uf where
 due:aP
 drop:Option Addr
 on:Option Addr
 dr:aP
 back:Option Addr
def Cg (x:gR)(P:uf):List Value:=(Value.int .i64 x.tick::Value.int .i64 (x.next:Int)::Value.slice P.due.1 x.due.length P.due.2::Value.int .i64 (x.word.st:Int)::Value.int .i64 (x.word.gen:Int)::Value.int .i64 (x.word.tr:Int)::Value.int .i64 (x.word.sn:Int)::Value.pointer P.drop::Value.int .i64 x.dying::Value.pointer P.on::Value.slice P.dr.1 x.dr.length P.dr.2::Value.pointer P.back::Value.bool x.done::[])
abbrev yD (q:Option Addr)(x:gR)(b:Option Addr)(P:uf)(F:SL):SL:=Obj q 92 (Value.int .i64 x.tick::Value.int .i64 (x.next:Int)::Value.slice P.due.1 x.due.length P.due.2::Value.int .i64 (x.word.st:Int)::Value.int .i64 (x.word.gen:Int)::Value.int .i64 (x.word.tr:Int)::Value.int .i64 (x.word.sn:Int)::Value.pointer P.drop::Value.int .i64 x.dying::Value.pointer P.on::Value.slice P.dr.1 x.dr.length P.dr.2::Value.pointer P.back::Value.bool x.done::[])*(ao 3 1 P.due.1 x.due.length P.due.2 (bB .i64 x.due)*(bu (ay P.drop) x.drop*(bu (cD P.on) x.on*(ao 3 1 P.dr.1 x.dr.length P.dr.2 (bB .i64 x.dr)*(bu (gO P.back b) x.back*F)))))
def sL (q:Option Addr)(x:gR)(b:Option Addr)(P:uf):SL:=Obj q 92 (Cg x P)*(ao 3 1 P.due.1 x.due.length P.due.2 (bB .i64 x.due)*(bu (ay P.drop) x.drop*(bu (cD P.on) x.on*(ao 3 1 P.dr.1 x.dr.length P.dr.2 (bB .i64 x.dr)*(bu (gO P.back b) x.back)))))
def gC (q:Option Addr)(x:gR)(b:Option Addr):SL:=SL.ex (sL q x b)
theorem sL.eq (q:Option Addr)(x:gR)(b:Option Addr)(P:uf)(F:SL):sL q x b P*F=yD q x b P F:=by
 unfold sL yD
 simp only[SL.cb]
 rfl
theorem gC.open (h:∀P,EK X k σ (yD q x b P F)):EK X k σ (gC q x b*F):=nT fun P=>by
 rw[sL.eq];exact h P
theorem gC.shut (P:uf){l:List Value}{G:SL}(h:l=Cg x P)(hG:U G (ao 3 1 P.due.1 x.due.length P.due.2 (bB .i64 x.due)*(bu (ay P.drop) x.drop*(bu (cD P.on) x.on*(ao 3 1 P.dr.1 x.dr.length P.dr.2 (bB .i64 x.dr)*(bu (gO P.back b) x.back*F)))))):U (Obj q 92 l*G) (gC q x b*F):=
 U.ex P (by
  subst h
  rw[sL.eq]
  exact U.star (U.refl _) hG)
theorem gC.bW (P:uf){H F':SL}{l:List Value}[r:bO H q (Obj q 92 l) F'](h:l=Cg x P)(hG:U F' (ao 3 1 P.due.1 x.due.length P.due.2 (bB .i64 x.due)*(bu (ay P.drop) x.drop*(bu (cD P.on) x.on*(ao 3 1 P.dr.1 x.dr.length P.dr.2 (bB .i64 x.dr)*(bu (gO P.back b) x.back*F)))))):U H (gC q x b*F):=by
 rw[r.eq]
 exact gC.shut P h hG
instance (priority:=2000)(q:Option Addr)(x:gR)(b:Option Addr)(F:SL):bO (gC q x b*F) q (gC q x b) F:=⟨rfl⟩
instance (q:Option Addr)(x:gR)(b:Option Addr):kR (gC q x b) q:=⟨fun W w F H=>by
 obtain⟨P,H⟩:=H.iX
 rw[sL.eq]at H
 exact(Obj.root q _ _).nn W w _ H⟩
structure dS where
 p:Option Addr
 c:Nat→Option Addr
 q:Nat→Option Addr
 wh:Option Addr
 m:Nat
 fr:Option Addr
 sw:Option Addr
 told:aP
 ended:aP
def jZ {α:Type}:Option α→Option Addr→Option Addr
 | .none,_=>none
 | .some _,a=>a
def eG (pp:Nat→Option Addr)(P:dS)(k:aR)(i:Nat):SL:=bj (P.c i) (pp i) (k.ca i).h (k.ca i).l (jZ (k.ca i).out (P.q i))*bu (bn (P.q i)) (k.ca i).out
abbrev cR (P:dS)(k:aR):List Value:=[.pointer (P.c 0),.pointer (P.c 1),.pointer (P.c 2),.pointer P.wh,.map (some P.m),.pointer (jZ k.frame P.fr),.pointer (jZ k.aX P.sw),.slice P.told.1 k.cj.length P.told.2,.int .i64 (k.iM:Int),.bool k.any,.slice P.ended.1 k.ended.length P.ended.2]
abbrev br (pp:Nat→Option Addr)(P:dS)(k:aR)(F:SL):SL:=Obj P.p 88 (cR P k)*(aE (eG pp P k) 3*(dR P.wh k.bp*(fU iq gy P.m k.cm*(ao 5 1 P.told.1 k.cj.length P.told.2 (aA k.cj)*(ao 287 2 P.ended.1 k.ended.length P.ended.2 (mb k.ended)*F)))))
def vG (pp:Nat→Option Addr)(P:dS)(k:aR):SL:=Obj P.p 88 (cR P k)*(aE (eG pp P k) 3*(dR P.wh k.bp*(fU iq gy P.m k.cm*(ao 5 1 P.told.1 k.cj.length P.told.2 (aA k.cj)*ao 287 2 P.ended.1 k.ended.length P.ended.2 (mb k.ended)))))
theorem vG.eq (pp:Nat→Option Addr)(P:dS)(k:aR)(F:SL):vG pp P k*F=br pp P k F:=by
 unfold vG br
 simp only[SL.cb]
structure eJ where
 ep:Option Addr
 pl:Option Addr
 tb:Option Addr
 po:Nat→Option Addr
 ws:aP
 wk:Nat→dS
abbrev Es (c:NC)(R:eJ):List Value:=nK c c.np c.n R.ep R.pl R.tb (R.po 0) (R.po 1) (R.po 2) R.ws
abbrev NH (pn:Option Addr)(c:NC)(R:eJ):SL:=Obj pn 100 (Es c R)
def bI (c:NC)(R:eJ)(s:aW)(i:Nat):SL:=bD (R.po i) c.np (s.po i)
abbrev dj (c:NC)(R:eJ)(s:aW)(F:SL):SL:=bP R.ep s.ep s.gs*(aM R.pl s.pl*(aK R.tb R.pl c.nb s.tb*(aE (bI c R s) 3*F)))
def vD (c:NC)(R:eJ)(s:aW):SL:=bP R.ep s.ep s.gs*(aM R.pl s.pl*(aK R.tb R.pl c.nb s.tb*aE (bI c R s) 3))
theorem vD.eq (c:NC)(R:eJ)(s:aW)(F:SL):vD c R s*F=dj c R s F:=by
 unfold vD dj
 simp only[SL.cb]
end
section
open Go.RowKit
set_option maxRecDepth 10000
attribute [local irreducible] EK EX ER EN EL ES EG az ba bf
variable {W:World} {F:SL} {X:Cx} {k:List KI} {σ:Env} {pn q:Option Addr} {f:aH} {c:NC} {R:eJ} {s:aW}
theorem yY {l:List UInt8}{z:aP}{e:Nat}:Spec Tryz.prog 93 [.pointer q,.slice z.1 l.length z.2,.int .i64 (e:Int)] W (ao 5 1 z.1 l.length z.2 (aA l)*(aG q f*F)) (fun _:Unit=> .tuple #[]) (fun _=>aG q (f.fin l e)*F):=by
 refine Spec.of Tryz.func93 rfl Tryz.ntmps93 rfl ?_
 refine cW q (aG.open fun P=> ?_)
 simp only[cr]
 repeat first|refine aa ?_ |intro
 refine aN (aO rfl () rfl (U.sat (aG.bW {P with ga:=z} (by rfl) ?_)))
 (try dsimp only[aH.fin,aH.refuse,aH.look]);(try simp only[cy]);first|exact U.refl _|exact U.last|(repeat(first|refine U.cons ?_ |exact U.any|exact U.last))
theorem yX {e:Nat}:Spec Tryz.prog 93 [.pointer q,.slice none 0 0,.int .i64 (e:Int)] W (aG q f*F) (fun _:Unit=> .tuple #[]) (fun _=>aG q (f.fin [] e)*F):=
 Spec.pre (yY (l:=[]) (z:=(none,0)) (e:=e)) (U.none (U.refl _))
theorem za {e:Nat}:Spec Tryz.prog 79 [.pointer q,.int .i64 (e:Int)] W (aG q f*F) (fun _:Unit=> .tuple #[]) (fun _=>aG q (f.refuse e)*F):=by
 refine Spec.of Tryz.func79 rfl Tryz.ntmps79 rfl ?_
 refine aG.open fun P=> ?_
 simp only[cr]
 repeat first|refine aa ?_ |intro
 refine aN (aO rfl () rfl (U.sat (aG.bW {P with ga:=(none,0)} (by rfl) ?_)))
 dsimp only[aH.refuse]
 exact U.cons (U.cons (U.cons (U.cons (U.cons (U.cons (U.none (ad)))))))
theorem yZ {id:Int}{w:aJ}:Spec Tryz.prog 90 [.pointer q,.int .i64 id,jk w] W (aG q f*F) (fun _:Unit=> .tuple #[]) (fun _=>aG q (f.fj id w)*F):=by
 refine Spec.of Tryz.func90 rfl Tryz.ntmps90 rfl ?_
 refine aG.open fun P=> ?_
 simp only[cr]
 repeat first|refine aa ?_ |intro
 rename_i y
 refine aL 10 (Obj y 78 (wL w [])*(iw q 80*1)) rfl rfl rfl ?_
 repeat(first|refine aq ?_ |refine aY 0 rfl rfl rfl rfl (by decide+kernel) (av) rfl ?_ |refine aY 1 rfl rfl rfl rfl (by decide+kernel) (av) rfl ?_ |refine aY 2 rfl rfl rfl rfl (by decide+kernel) (av) rfl ?_ |refine aY 3 rfl rfl rfl rfl (by decide+kernel) (av) rfl ?_)
 repeat(first|refine bQ ?_ |(refine bU ?_;intro)|refine bR ?_ |refine bS ?_ |refine bT ?_ |refine eD ?_)
 by_cases hw:w.st=1
 ·repeat first|refine aa ?_ |intro
  rw[show f.fj id w={f with id:=id,word:=w,next:=3}by unfold aH.fj;rw[if_pos hw]]
  exact aN (aO rfl () rfl (U.sat (aG.bW P (by rfl) (by(try dsimp only[aH.fin,aH.refuse,aH.look]);(try simp only[cy]);exact ad))))
 ·repeat first|refine aa ?_ |intro
  rw[show f.fj id w={f with id:=id,word:=w,next:=4}by unfold aH.fj;rw[if_neg hw]]
  exact aN (aO rfl () rfl (U.sat (aG.bW P (by rfl) (by(try dsimp only[aH.fin,aH.refuse,aH.look]);(try simp only[cy]);exact ad))))
structure fB (f:aH):Prop where
 da:f.b.length≤140737488355328
 tick:0≤f.tick∧f.tick≤4294967295
 proto:f.ar.proto<256
 addr:f.ar.addr<4294967296
 port:f.ar.port<65536
 flags:f.part.flags<256
theorem CX (hf:fH (c.nb:Int)=true)(h:fB f):Spec Tryz.prog 48 [.pointer pn,.pointer q] W (aG q f*(NH pn c R*(aK R.tb R.pl c.nb s.tb*F))) (fun _:Unit=> .tuple #[]) (fun _=>aG q (f.look c)*(NH pn c R*(aK R.tb R.pl c.nb s.tb*F))):=by
 refine Spec.of Tryz.func48 rfl Tryz.ntmps48 rfl ?_
 have h1:=h.proto
 refine aG.open fun P=> ?_
 simp only[cr]
 repeat first|refine aa ?_ |intro
 refine aL 13 (NH pn c R*(Obj q 80 (cF f P)*1)) rfl rfl rfl ?_
 repeat(first|refine aq ?_ |refine aY 0 rfl rfl rfl rfl (by decide+kernel) (av) rfl ?_ |refine aY 1 rfl rfl rfl rfl (by decide+kernel) (av) rfl ?_ |refine aY 2 rfl rfl rfl rfl (by decide+kernel) (av) rfl ?_ |refine aY 3 rfl rfl rfl rfl (by decide+kernel) (av) rfl ?_)
 refine aI rfl rfl rfl rfl rfl (Spec.aV R.tb (GV hf (by omega) h.addr h.port)) (fun _=>ad) ?_
 intro g
 repeat(first|refine aq ?_ |refine aY 0 rfl rfl rfl rfl (by decide+kernel) (av) rfl ?_ |refine aY 1 rfl rfl rfl rfl (by decide+kernel) (av) rfl ?_ |refine aY 2 rfl rfl rfl rfl (by decide+kernel) (av) rfl ?_ |refine aY 3 rfl rfl rfl rfl (by decide+kernel) (av) rfl ?_)
 (refine my rfl (di rfl rfl rfl rfl rfl rfl) (by decide+kernel) rfl ?_);repeat(first|refine gu rfl rfl rfl (iy rfl rfl) (by decide+kernel) (by decide+kernel) rfl ?_ |refine gu rfl rfl rfl (ix rfl rfl) (by decide+kernel) (by decide+kernel) rfl ?_ |refine mz rfl rfl (di rfl rfl rfl rfl rfl rfl) (by decide+kernel) (by decide+kernel) rfl ?_ |refine eD ?_)
 repeat first|refine aa ?_ |intro
 refine aN (aO rfl () rfl (U.sat (aG.bW {P with find:=g} (by rfl) ?_)))
 dsimp only[aH.look,jh]
 simp only[cy]
 exact ad
theorem Iu {w:aJ}{P:pJ}(h:fB f)(hw:w.tr≤4):Spec Tryz.prog 108 [.pointer q,jk w] W (Obj q 80 (cF f P)*F) (fun _:Unit=>jk (f.gm w)) (fun _=>Obj q 80 (cF f P)*F):=by
 refine Spec.of Tryz.func108 rfl Tryz.ntmps108 rfl ?_
 have h1:=h.proto
 have h2:=h.flags
 have h3:=h.tick
 by_cases he:f.part.err=true
 ·have e:f.gm w=w:=by unfold aH.gm;rw[if_pos he]
  rw[e]
  repeat first|refine aa ?_ |intro
  refine vn (by rw[he];rfl) ?_
  repeat first|refine aa ?_ |intro
  exact ae (kO (rv:= .cell 4 78) rfl ⟨_,rfl,bc.agg rfl⟩ () rfl (U.sat (ad)))
 ·have he:f.part.err=false:=by simpa using he
  have e:f.gm w={w with tr:=iF f.ar.proto w.tr f.out f.part.flags,sn:=if mi f.ar.proto f.out then max w.sn f.tick.toNat else w.sn}:=by unfold aH.gm;rw[if_neg (by rw[he];decide)]
  rw[e]
  repeat first|refine aa ?_ |intro
  refine vm (by rw[he];rfl) ?_
  repeat first|refine aa ?_ |intro
  rename_i y z
  refine aL 18 (Obj y 78 (wL w [])*(Obj q 80 (cF f P)*1)) rfl rfl rfl ?_
  repeat(first|refine aq ?_ |refine eD ?_)
  refine aI rfl rfl rfl rfl rfl (Bk f.ar.proto w.tr f.part.flags f.out hw h2 h1) (fun _=>ad) ?_
  intro _
  repeat(first|refine aq ?_ |refine eD ?_)
  repeat(first|refine bQ ?_ |(refine bU ?_;intro)|refine bR ?_ |refine bS ?_ |refine bT ?_ |refine eD ?_)
  generalize iF f.ar.proto w.tr f.out f.part.flags=nx
  repeat first|refine aa ?_ |intro
  refine aL 99 (Obj q 80 (cF f P)*1) rfl rfl rfl ?_
  repeat(first|refine aq ?_ |refine eD ?_)
  refine aI rfl rfl rfl rfl rfl (Ph f.ar.proto f.out) (fun _=>ad) ?_
  intro _
  repeat(first|refine aq ?_ |refine eD ?_)
  cases hr:mi f.ar.proto f.out with
  |true=>
   repeat first|refine aa ?_ |intro
   refine aL 8 (Obj y 78 (wL {w with tr:=nx} [])*(Obj q 80 (cF f P)*1)) rfl rfl rfl ?_
   repeat(first|refine aq ?_ |refine eD ?_)
   repeat(first|refine bQ ?_ |(refine bU ?_;intro)|refine bR ?_ |refine bS ?_ |refine bT ?_ |refine eD ?_)
   repeat first|refine aa ?_ |intro
   have em:((max w.sn f.tick.toNat:Nat):Int)=max (w.sn:Int) f.tick:=by omega
   rw[if_pos rfl]
   exact ae (kO (rv:= .cell 4 78) rfl ⟨_,rfl,bc.agg rfl⟩ () (by simp only[jk];rw[em]) (U.sat (ad)))
  |false=>
   repeat first|refine aa ?_ |intro
   rw[if_neg (by decide)]
   exact ae (kO (rv:= .cell 4 78) rfl ⟨_,rfl,bc.agg rfl⟩ () rfl (U.sat (ad)))
theorem RK (hc:c.Ok){id:Nat}(h:fB f)(hid:id<3*c.np):Spec Tryz.prog 96 [.pointer pn,.pointer q,.int .i64 (id:Int)] W (aG q f*(NH pn c R*F)) (fun _:Unit=> .tuple #[]) (fun _=>aG q (f.goes c (id:Int))*(NH pn c R*F)):=by
 refine Spec.of Tryz.func96 rfl Tryz.ntmps96 rfl ?_
 have hp:=hc.p
 have ho:=hc.o
 have oc:=h.da
 have c3:c.np=c.hi+1-c.lo:=rfl
 haveI:Pos c.np:=⟨by omega⟩
 have hr:id%c.np<c.np:=Nat.mod_lt _ (by omega)
 refine aG.open fun P=> ?_
 simp only[cr]
 repeat first|refine aa ?_ |intro
 refine aL 26 (NH pn c R*(Obj q 80 (cF f P)*1)) rfl rfl rfl ?_
 repeat(first|refine aq ?_ |refine eD ?_)
 rw[show((c.lo:Int)+(id:Int)%(c.np:Int))=((c.lo+id%c.np:Nat):Int)by omega]
 refine aI rfl rfl rfl rfl rfl (O9 (l:=f.b) oc c.o (c.lo+id%c.np) (by omega) (by omega)) (fun _=>ad) ?_
 intro z
 repeat(first|refine aq ?_ |refine eD ?_)
 simp only[vC]
 refine kh rfl rfl rfl rfl (Spec.pre (yY (q:=q) (f:=f) (l:=jf f.b true c.o (c.lo+id%c.np)) (z:=z) (e:=dz f.b) (F:=NH pn c R*F)) (U.cons (aG.bW P (by rfl) (ad)))) ?_
 intro _
 repeat(first|refine aq ?_ |refine eD ?_)
 repeat first|refine aa ?_ |intro
 exact aN (aO rfl () rfl (U.sat (U.refl _)))
end
section
open Go.RowKit
set_option maxRecDepth 10000
attribute [local irreducible] EK EX ER EN EL ES EG az ba bf
variable {W:World} {F:SL} {X:Cx} {k:List KI} {σ:Env} {pn q:Option Addr} {f:aH} {c:NC} {R:eJ} {s:aW}
theorem NC.Ok.rk (h:c.Ok):fH (c.nb:Int)=true:=by
 have:=h.b
 unfold iI at this
 unfold fH
 exact decide_eq_true (by omega)
theorem NC.Ok.np (h:c.Ok):1≤c.np∧c.np≤1024:=by
 obtain⟨_,_,h3,_,_⟩:=h
 unfold NC.np
 omega
theorem NC.Ok.nb (h:c.Ok):2≤c.nb∧c.nb≤1024:=by
 have:=h.b
 unfold iI at this
 omega
theorem FK {a b:aJ}:(@decide (([.int .i64 (a.st:Int),.int .i64 (a.gen:Int),.int .i64 (a.tr:Int),.int .i64 (a.sn:Int)]:List Value)=[.int .i64 (b.st:Int),.int .i64 (b.gen:Int),.int .i64 (b.tr:Int),.int .i64 (b.sn:Int)]) (Classical.propDecidable _))=decide (a=b):=by
 obtain⟨a1,a2,a3,a4⟩:=a
 obtain⟨b1,b2,b3,b4⟩:=b
 rw[decide_eq_decide]
 simp only[List.cons.injEq,Value.int.injEq,aJ.mk.injEq,and_true,true_and,Int.natCast_inj]
theorem CR (hc:c.Ok){id:Int}(h:fB f)(h0:0≤id)(h1:id<((3*c.np:Nat):Int)):Spec Tryz.prog 96 [.pointer pn,.pointer q,.int .i64 id] W (aG q f*(NH pn c R*F)) (fun _:Unit=> .tuple #[]) (fun _=>aG q (f.goes c id)*(NH pn c R*F)):=by
 have h:=RK (W:=W) (F:=F) (pn:=pn) (q:=q) (R:=R) (id:=id.toNat) hc h (by omega)
 rw[show((id.toNat:Nat):Int)=id by omega]at h
 exact h
theorem tB {p:Option Addr}{id:Int}(hc:c.Ok)(hp:cK (3*c.np) s.pl)(h0:0≤id)(h1:id<((3*c.np:Nat):Int)):Spec Tryz.prog 27 [.pointer p,.int .i64 id] W (aM p s.pl*F) (fun _:Unit=>jk (bC s id)) (fun _=>aM p s.pl*F):=by
 have c3:=hc.np
 have h:=yy (W:=W) (F:=F) (p:=p) (i:=id.toNat) hp.len (by omega) (by omega) hp.w
 rw[show((id.toNat:Nat):Int)=id by omega]at h
 exact h
theorem uR {p:Option Addr}{id:Int}{a b:aJ}(hc:c.Ok)(hp:cK (3*c.np) s.pl)(h0:0≤id)(h1:id<((3*c.np:Nat):Int))(ha:a.ok)(hb:b.ok):Spec Tryz.prog 94 [.pointer p,.int .i64 id,jk a,jk b] W (aM p s.pl*F) (fun _:Unit=> .bool (fG s id a b)) (fun _=>aM p (bN s id a b).pl*F):=by
 have c3:=hc.np
 have h:=Pb (W:=W) (F:=F) (p:=p) (i:=id.toNat) hp.len (by omega) (by omega) ha hb
 rw[show((id.toNat:Nat):Int)=id by omega]at h
 have e:(bN s id a b).pl=if kE a b=true∧s.pl.getD (2*id.toNat) 0=a.num then s.pl.set (2*id.toNat) b.num else s.pl:=by
  unfold bN fG
  simp only[Bool.and_eq_true,decide_eq_true_eq]
  split<;>rfl
 rw[e]
 exact h
theorem Wl (hc:c.Ok)(hp:cK (3*c.np) s.pl)(h:fB f)(h0:0≤f.id)(h1:f.id<((3*c.np:Nat):Int)):Spec Tryz.prog 95 [.pointer pn,.pointer q] W (aG q f*(NH pn c R*(aM R.pl s.pl*(aK R.tb R.pl c.nb s.tb*F)))) (fun _:Unit=> .tuple #[])
  (fun _=>aG q (tU c s f)*(NH pn c R*(aM R.pl s.pl*(aK R.tb R.pl c.nb s.tb*F)))):=by
 refine Spec.of Tryz.func95 rfl Tryz.ntmps95 rfl ?_
 have c3:=hc.np
 have j9:=hc.rk
 have wW:(bC s f.id).tr≤4:=hp.tr f.id.toNat
 refine aG.open fun P=> ?_
 simp only[cr]
 refine qQ ?_
 refine kN (γ:=Option Addr) (fun _=>True) (fun y=>[(0,.pointer pn),(1,.pointer q),(4,.pointer y)]) (fun y=>Obj y 78 (wL (bC s f.id) [])*cr q f P (NH pn c R*(aM R.pl s.pl*(aK R.tb R.pl c.nb s.tb*F)))) ?_ ?_
 ·repeat first|refine aa ?_ |intro
  refine aL 10 (NH pn c R*(Obj q 80 (cF f P)*1)) rfl rfl rfl ?_
  repeat(first|refine aq ?_ |refine eD ?_)
  refine qP (i:=8) (j:=9) (sx rfl rfl rfl rfl (Spec.aV R.pl (tB hc hp h0 h1)) (fun _=>ad) ?_) (sA rfl rfl (pO rfl) rfl (fun _=>ad) ?_)
  ·intro _
   repeat(first|refine bQ ?_ |(refine bU ?_;intro)|refine bR ?_ |refine bS ?_ |refine bT ?_ |refine eD ?_)
   rename_i y
   repeat first|refine aa ?_ |intro
   exact ei y trivial ⟨rfl,rfl,rfl,trivial⟩ (U.sat (ad))
  ·intro y
   refine aI rfl rfl rfl rfl rfl (Spec.aV R.pl (tB hc hp h0 h1)) (fun _=>ad) ?_
   intro _
   repeat(first|refine bQ ?_ |(refine bU ?_;intro)|refine bR ?_ |refine bS ?_ |refine bT ?_ |refine eD ?_)
   repeat first|refine aa ?_ |intro
   exact ei y trivial ⟨rfl,rfl,rfl,trivial⟩ (U.sat (ad))
 intro y _
 unfold tU
 generalize bC s f.id=w at*
 simp only[cr]
 by_cases hg:w.gen=f.word.gen
 ·by_cases w2:w.st=2
  ·rw[if_neg (by omega),if_neg (by omega)]
   repeat first|refine aa ?_ |intro
   (refine aL 99 (Obj y 78 (wL w [])*(Obj q 80 (cF f P)*1)) rfl rfl rfl ?_);(repeat(first|refine aq ?_ |refine eD ?_));(repeat first|refine aa ?_ |intro)
   refine aL 15 (Obj y 78 (wL w [])*(iw q 80*1)) rfl rfl rfl ?_
   repeat(first|refine aq ?_ |refine aY 0 rfl rfl rfl rfl (by decide+kernel) (av) rfl ?_ |refine aY 1 rfl rfl rfl rfl (by decide+kernel) (av) rfl ?_ |refine aY 2 rfl rfl rfl rfl (by decide+kernel) (av) rfl ?_ |refine aY 3 rfl rfl rfl rfl (by decide+kernel) (av) rfl ?_)
   refine aI rfl rfl rfl rfl rfl (Spec.aV q (Iu (P:=P) h wW)) (fun _=>by(repeat(first|refine U.cons ?_ |refine U.xy ?_ |exact U.any|exact U.last))) ?_
   intro _
   repeat(first|refine aq ?_ |refine aY 0 rfl rfl rfl rfl (by decide+kernel) (av) rfl ?_ |refine aY 1 rfl rfl rfl rfl (by decide+kernel) (av) rfl ?_ |refine aY 2 rfl rfl rfl rfl (by decide+kernel) (av) rfl ?_ |refine aY 3 rfl rfl rfl rfl (by decide+kernel) (av) rfl ?_)
   repeat(first|refine bQ ?_ |(refine bU ?_;intro)|refine bR ?_ |refine bS ?_ |refine bT ?_ |refine eD ?_)
   repeat first|refine aa ?_ |intro
   obtain⟨g,hg⟩:∃g:aH,g={f with word:=w,now:=f.gm w,next:=5}:=⟨_,rfl⟩
   have wm:g.now=f.gm w:=by rw[hg]
   have wj:g.id=f.id:=by rw[hg]
   have rJ:fB g:=by rw[hg];exact⟨h.da,h.tick,h.proto,h.addr,h.port,h.flags⟩
   have e1:({f with word:=w,now:=f.gm w,next:=5}:aH)=g:=hg.symm
   rw[e1]
   refine jE (G:=Obj y 78 (wL w [])*cr q g P (NH pn c R*(aM R.pl s.pl*(aK R.tb R.pl c.nb s.tb*F)))) (by rw[hg];exact ad) ?_
   simp only[cr]
   refine aL 99 (Obj y 78 (wL w [])*(Obj q 80 (cF g P)*1)) rfl rfl rfl ?_
   repeat(first|refine aq ?_ |refine eD ?_)
   rw[FK]
   by_cases heq:f.gm w=w
   ·rw[if_pos heq,decide_eq_true (by rw[wm];exact heq)]
    repeat first|refine aa ?_ |intro
    refine ag rfl (Spec.pre (CR (pn:=pn) (q:=q) (f:=g) (R:=R) (id:=g.id) (F:=Obj y 78 (wL w [])*(aM R.pl s.pl*(aK R.tb R.pl c.nb s.tb*F))) hc rJ (by omega) (by omega)) (aG.bW P (by rfl) (ad))) ?_
    intro _
    repeat first|refine aa ?_ |intro
    rw[wj]
    exact aN (aO rfl () rfl (U.sat (ad)))
   ·rw[if_neg heq,decide_eq_false (by rw[wm];exact heq)]
    repeat first|refine aa ?_ |intro
    exact aN (aO rfl () rfl (U.sat (aG.bW P (by rfl) (ad))))
  ·by_cases w1:w.st=1
   ·rw[if_neg (by omega),if_pos w1]
    repeat first|refine aa ?_ |intro
    (refine aL 99 (Obj y 78 (wL w [])*(Obj q 80 (cF f P)*1)) rfl rfl rfl ?_);(repeat(first|refine aq ?_ |refine eD ?_));(repeat first|refine aa ?_ |intro)
    refine aL 6 (Obj y 78 (wL w [])*(Obj q 80 (cF f P)*1)) rfl rfl rfl ?_
    repeat(first|refine aq ?_ |refine eD ?_)
    refine kh rfl rfl rfl rfl (Spec.pre (yZ (q:=q) (f:=f) (id:=f.id) (w:=w) (F:=Obj y 78 (wL w [])*(NH pn c R*(aM R.pl s.pl*(aK R.tb R.pl c.nb s.tb*F))))) (aG.bW P (by rfl) (ad))) ?_
    intro _
    repeat(first|refine aq ?_ |refine eD ?_)
    repeat first|refine aa ?_ |intro
    exact aN (aO rfl () rfl (U.sat (ad)))
   ·rw[if_pos (.inr ⟨w2,w1⟩)]
    repeat first|refine aa ?_ |intro
    (refine aL 99 (Obj y 78 (wL w [])*(Obj q 80 (cF f P)*1)) rfl rfl rfl ?_);(repeat(first|refine aq ?_ |refine eD ?_));(repeat first|refine aa ?_ |intro)
    refine ag rfl (Spec.pre (CX (pn:=pn) (q:=q) (f:=f) (R:=R) (s:=s) (F:=Obj y 78 (wL w [])*(aM R.pl s.pl*F)) j9 h) (aG.bW P (by rfl) (ad))) ?_;intro _;(repeat first|refine aa ?_ |intro);exact aN (aO rfl () rfl (U.sat (ad)))
 ·rw[if_pos (.inl hg)]
  repeat first|refine aa ?_ |intro
  (refine aL 99 (Obj y 78 (wL w [])*(Obj q 80 (cF f P)*1)) rfl rfl rfl ?_);(repeat(first|refine aq ?_ |refine eD ?_));(repeat first|refine aa ?_ |intro)
  refine ag rfl (Spec.pre (CX (pn:=pn) (q:=q) (f:=f) (R:=R) (s:=s) (F:=Obj y 78 (wL w [])*(aM R.pl s.pl*F)) j9 h) (aG.bW P (by rfl) (ad))) ?_;intro _;(repeat first|refine aa ?_ |intro);exact aN (aO rfl () rfl (U.sat (ad)))
end
section
open Go.RowKit
set_option maxRecDepth 10000
attribute [local irreducible] EK EX ER EN EL ES EG az ba bf
variable {W:World} {F G:SL} {X:Cx} {kk:List KI} {σ:Env} {pn q:Option Addr} {f:aH} {c:NC} {R:eJ} {s:aW} {k:aR} {P:dS} {pp:Nat→Option Addr}
theorem lM {i:Nat}(hi:i<3)(ho:(k.ca i).out=none):aE (eG pp P k) 3*G=bj (P.c i) (pp i) (k.ca i).h (k.ca i).l none*(aE (df (eG pp P k) i) 3*G):=by
 rw[aE.at 3 hi,SL.cb]
 show eG pp P k i*_=_
 unfold eG
 rw[ho,SL.cb,ia]
 rfl
theorem Aj {i:Nat}(hi:i<3):aE (bI c R s) 3*G=bD (R.po i) c.np (s.po i)*(aE (df (bI c R s) i) 3*G):=by
 rw[aE.at 3 hi,SL.cb]
 rfl
theorem vP (k:aR)(a:dC){i j:Nat}(hj:j<3)(hi:i<3)(h:j≠i):(k.bK i a).ca j=k.ca j:=by
 unfold aR.bK aR.ca
 rcases(show i=0∨i=1∨i=2 by omega)with rfl|rfl|rfl<;>rcases(show j=0∨j=1∨j=2 by omega)with rfl|rfl|rfl<;>first|exact absurd rfl h|rfl
theorem uk (k:aR)(a:dC){i:Nat}(hi:i<3):(k.bK i a).ca i=a:=by
 unfold aR.bK aR.ca
 rcases(show i=0∨i=1∨i=2 by omega)with rfl|rfl|rfl<;>rfl
theorem Cw {i:Nat}(hi:i<3)(a:dC):aE (eG pp P (k.bK i a)) 3*G=bj (P.c i) (pp i) a.h a.l (jZ a.out (P.q i))*(bu (bn (P.q i)) a.out*(aE (df (eG pp P k) i) 3*G)):=by
 rw[aE.at 3 hi,SL.cb]
 show eG pp P (k.bK i a) i*_=_
 have e:aE (df (eG pp P (k.bK i a)) i) 3=aE (df (eG pp P k) i) 3:=aE.congr 3 fun j hj=>by
  unfold df
  split
  ·rfl
  ·rename_i h
   unfold eG
   rw[vP k a hj hi h]
 rw[e]
 unfold eG
 rw[uk k a hi,SL.cb]
theorem ET (s:aW)(w:List Nat){i j:Nat}(hj:j<3)(hi:i<3)(h:j≠i):(s.dP i w).po j=s.po j:=by
 unfold aW.dP aW.po
 rcases(show i=0∨i=1∨i=2 by omega)with rfl|rfl|rfl<;>rcases(show j=0∨j=1∨j=2 by omega)with rfl|rfl|rfl<;>first|exact absurd rfl h|rfl
theorem xF (s:aW)(w:List Nat){i:Nat}(hi:i<3):(s.dP i w).po i=w:=by
 unfold aW.dP aW.po
 rcases(show i=0∨i=1∨i=2 by omega)with rfl|rfl|rfl<;>rfl
theorem uU {i:Nat}(hi:i<3)(w:List Nat):aE (bI c R (s.dP i w)) 3*G=bD (R.po i) c.np w*(aE (df (bI c R s) i) 3*G):=by
 rw[aE.at 3 hi,SL.cb]
 have e:aE (df (bI c R (s.dP i w)) i) 3=aE (df (bI c R s) i) 3:=aE.congr 3 fun j hj=>by
  unfold df
  split
  ·rfl
  ·rename_i h
   unfold bI
   rw[ET s w hj hi h]
 rw[e]
 unfold bI
 rw[xF s w hi]
theorem gH (p:Nat):aF p<3:=by
 unfold aF
 split
 ·decide
 ·split<;>decide
theorem rq {Q:pJ}(hp:f.ar.proto=1∨f.ar.proto=6∨f.ar.proto=17):Spec Tryz.prog 97 [.pointer q,.pointer P.p] W (Obj q 80 (cF f Q)*(Obj P.p 88 (cR P k)*F)) (fun _:Unit=> .pointer (P.c (aF f.ar.proto))) (fun _=>Obj q 80 (cF f Q)*(Obj P.p 88 (cR P k)*F)):=by
 refine Spec.of Tryz.func97 rfl Tryz.ntmps97 rfl ?_
 repeat first|refine aa ?_ |intro
 refine aL 99 (Obj q 80 (cF f Q)*(Obj P.p 88 (cR P k)*1)) rfl rfl rfl ?_
 repeat(first|refine aq ?_ |refine eD ?_)
 refine aI rfl rfl rfl rfl rfl (Bh _) (fun _=>ad) ?_
 intro _
 rcases hp with e|e|e
 ·rw[e]
  rw[show fX ((1:Nat):Int)=((0:Nat):Int)from rfl,show aF 1=0 from rfl]
  repeat(first|refine aq ?_ |refine eD ?_)
  repeat first|refine aa ?_ |intro
  exact ae (aw rfl rfl () rfl (U.sat (ad)))
 ·rw[e]
  rw[show fX ((6:Nat):Int)=((1:Nat):Int)from rfl,show aF 6=1 from rfl]
  repeat(first|refine aq ?_ |refine eD ?_)
  repeat first|refine aa ?_ |intro
  exact ae (aw rfl rfl () rfl (U.sat (ad)))
 ·rw[e]
  rw[show fX ((17:Nat):Int)=((2:Nat):Int)from rfl,show aF 17=2 from rfl]
  repeat(first|refine aq ?_ |refine eD ?_)
  repeat first|refine aa ?_ |intro
  exact ae (aw rfl rfl () rfl (U.sat (ad)))
theorem KF (hc:c.Ok)(hp:f.ar.proto=1∨f.ar.proto=6∨f.ar.proto=17)(ho:(k.ca (aF f.ar.proto)).out=none)(hw:hJ ((c.np+31)/32) (s.po (aF f.ar.proto))):
  Spec Tryz.prog 92 [.pointer pn,.pointer P.p,.pointer q] W (aG q f*(br R.po P k (aE (bI c R s) 3*F))) (fun _:Unit=> .tuple #[]) (fun _=>aG q (f.qa c k)*(br R.po P k (aE (bI c R s) 3*F))):=by
 refine Spec.of Tryz.func92 rfl Tryz.ntmps92 rfl ?_
 have bl:=gH f.ar.proto
 refine aG.open fun Q=> ?_
 simp only[cr,br]
 repeat first|refine aa ?_ |intro
 refine ag rfl (Spec.fE q P.p (rq (Q:=Q) (k:=k) (P:=P) hp)) ?_
 intro _
 have ef:f.qa c k={f with fill:=some (mN c.np (k.ca (aF f.ar.proto))),next:=6}:=rfl
 rw[ef]
 generalize aF f.ar.proto=kd at*
 rw[lM bl ho]
 by_cases hl:(k.ca kd).l=[]
 ·rw[Aj bl,hl]
  repeat first|refine aa ?_ |intro
  refine ag rfl (Spec.fE (P.c kd) (R.po kd) (OB (h:=(k.ca kd).h) hw)) ?_
  intro g
  repeat first|refine aa ?_ |intro
  have e2:mN c.np (k.ca kd)=⟨0,iL (k.ca kd).h 8 ((c.np+31)/32),false⟩:=by unfold mN;rw[if_neg (by rw[ho,hl];simp)]
  rw[e2]
  refine aN (aO rfl () rfl (U.sat (aG.bW {Q with fill:=g.1,fin:=g.2} (by rfl) ?_)))
  simp only[cy]
  rw[show gO g.1 g.2 ⟨0,iL (k.ca kd).h 8 ((c.np+31)/32),false⟩=fe g.1 0 g.2 false*bn g.2 (iL (k.ca kd).h 8 ((c.np+31)/32))from rfl,SL.cb]
  exact ad
 ·have DC:0<(k.ca kd).l.length:=List.length_pos_iff.2 hl
  repeat first|refine aa ?_ |intro
  refine ag rfl (Spec.aV (P.c kd) (OA DC)) ?_
  intro g
  repeat first|refine aa ?_ |intro
  have e2:mN c.np (k.ca kd)=xQ:=by unfold mN;rw[if_pos (.inl hl)]
  rw[e2]
  refine aN (aO rfl () rfl (U.sat (aG.bW {Q with fill:=g} (by rfl) ?_)))
  simp only[cy]
  rw[show ∀i,gO g i xQ=fe g 3 none false from fun i=>rfl]
  exact ad
end
section
open Go.RowKit
set_option maxRecDepth 10000
attribute [local irreducible] EK EX ER EN EL ES EG az ba bf
variable {W:World} {F G:SL} {X:Cx} {kk:List KI} {σ:Env} {pn q:Option Addr} {f:aH} {c:NC} {R:eJ} {s:aW} {k:aR} {P:dS} {pp:Nat→Option Addr}
structure nV (c:NC)(s:aW)(k:aR):Prop where
 out:∀i,i<3→(k.ca i).out=none
 words:∀i,i<3→hJ ((c.np+31)/32) (s.po i)
def kY (p:Nat):Prop:=p=1∨p=6∨p=17
structure Gr (c:NC)(f:aH):Prop where
 fin:fB f
 ct:f.fW=true→kY f.ar.proto
 find:f.next=2→∃t,f.find=some t∧bt c.nb (3*c.np) t∧t.done=false
 id:f.next≠2→0≤f.id∧f.id<((3*c.np:Nat):Int)
 word:f.word.ok
 now:f.now.ok
set_option maxHeartbeats 2000000 in
theorem Wa (hc:c.Ok)(hp:cK (3*c.np) s.pl)(ht:dD c.nb (3*c.np) s.tb)(hk:nV c s k)(h:Gr c f)(h2:2≤f.next)(h5:f.next≤5):
  Spec Tryz.prog 49 [.pointer pn,.pointer P.p,.pointer q] W (aG q f*br R.po P k (NH pn c R*(aM R.pl s.pl*(aK R.tb R.pl c.nb s.tb*(aE (bI c R s) 3*F))))) (fun _:Unit=> .tuple #[])
  (fun _=>aG q (fw c s k f).2*br R.po P k (NH pn c R*(aM R.pl (fw c s k f).1.pl*(aK R.tb R.pl c.nb (fw c s k f).1.tb*(aE (bI c R s) 3*F))))):=by
 refine Spec.of Tryz.func49 rfl Tryz.ntmps49 rfl ?_
 have j9:=hc.rk
 have bJ:=h.fin
 have jT:=h.word
 have DO:=h.now
 refine aG.open fun Q=> ?_
 have jt:f.next=2∨f.next=3∨f.next=4∨f.next=5:=by omega
 rcases jt with e|e|e|e
 ·obtain⟨t,la,jR,wV⟩:=h.find e
  have es:fw c s k f=({s with tb:=(bA s.pl c.nb s.tb t).1},if(bA s.pl c.nb s.tb t).2.done=false then {f with find:=some (bA s.pl c.nb s.tb t).2}else oT c k {f with find:=some (bA s.pl c.nb s.tb t).2} (bA s.pl c.nb s.tb t).2):=by
   unfold fw;rw[if_pos e,la]
  rw[es]
  simp only[cr,br,la,cy]
  repeat first|refine aa ?_ |intro
  refine aL 99 (NH pn c R*(Obj q 80 (cF f Q)*1)) rfl rfl rfl ?_
  repeat(first|refine aq ?_ |refine eD ?_)
  refine aI rfl rfl rfl rfl rfl (Spec.yI Q.find R.tb R.pl (Ci j9 ht hp jR wV)) (fun _=>ad) ?_
  intro _
  repeat(first|refine aq ?_ |refine eD ?_)
  generalize bA s.pl c.nb s.tb t=D at*
  obtain⟨dN,t'⟩:=D
  dsimp only at*
  cases hd:t'.done with
  |false=>
   rw[if_pos rfl]
   repeat first|refine aa ?_ |intro
   refine ae (dB rfl () rfl (U.sat (aG.bW Q (by rfl) ?_)))
   simp only[cy]
   exact ad
  |true=>
   rw[if_neg (by decide)]
   obtain⟨g,hg⟩:∃g:aH,g={f with find:=some t'}:=⟨_,rfl⟩
   have rJ:fB g:=by rw[hg];exact⟨bJ.da,bJ.tick,bJ.proto,bJ.addr,bJ.port,bJ.flags⟩
   have s7:g.fW=f.fW:=by rw[hg]
   have SX:g.ar=f.ar:=by rw[hg]
   rw[←hg]
   refine jE (G:=aG q g*br R.po P k (NH pn c R*(aM R.pl s.pl*(aK R.tb R.pl c.nb dN*(aE (bI c R s) 3*F))))) (by rw[hg];exact(aG.bW Q (by rfl) (by(try simp only[cy]);exact ad))) ?_
   unfold oT
   by_cases h0:t'.end_=0
   ·rw[if_pos h0]
    have rK:g.find=some t':=by rw[hg]
    refine aG.open fun Q=> ?_
    simp only[cr,br,rK,cy]
    repeat first|refine aa ?_ |intro
    refine ag rfl (Spec.aV Q.find ub) ?_
    intro _
    repeat first|refine aa ?_ |intro
    refine ag rfl (Spec.aV Q.find A7) ?_
    intro _
    repeat first|refine aa ?_ |intro
    refine ag rfl (Spec.pre (yZ (q:=q) (f:=g) (id:=t'.found) (w:=t'.aQ) (F:=br R.po P k (NH pn c R*(aM R.pl s.pl*(aK R.tb R.pl c.nb dN*(aE (bI c R s) 3*F)))))) (aG.bW Q (by rfl) (by rw[rK];(try simp only[cy]);exact ad))) ?_
    intro _
    repeat first|refine aa ?_ |intro
    exact aN (aO rfl () rfl (U.sat (ad)))
   ·rw[if_neg h0]
    by_cases hb:f.fW=true
    ·rw[s7,if_pos hb]
     have rK:g.find=some t':=by rw[hg]
     have wi:g.fW=true:=by rw[s7];exact hb
     have qj:=h.ct hb
     have bl:=gH g.ar.proto
     refine aG.open fun Q=> ?_
     simp only[cr,br,rK,wi,cy]
     repeat first|refine aa ?_ |intro
     refine ag rfl (Spec.aV Q.find ub) ?_
     intro _
     repeat first|refine aa ?_ |intro
     refine ag rfl (Spec.pre (KF (pn:=pn) (q:=q) (f:=g) (R:=R) (s:=s) (k:=k) (P:=P) (F:=NH pn c R*(aM R.pl s.pl*(aK R.tb R.pl c.nb dN*F))) hc (by rw[SX];exact qj) (hk.out _ bl) (hk.words _ bl)) (aG.bW Q (by unfold uc;rw[wi]) (by rw[rK];simp only[cy];exact ad))) ?_
     intro _
     repeat first|refine aa ?_ |intro
     exact aN (aO rfl () rfl (U.sat (ad)))
    ·rw[s7,if_neg hb]
     have rK:g.find=some t':=by rw[hg]
     have wi:g.fW=false:=by rw[s7];simpa using hb
     refine aG.open fun Q=> ?_
     simp only[cr,br,rK,wi,cy]
     repeat first|refine aa ?_ |intro
     refine ag rfl (Spec.aV Q.find ub) ?_
     intro _
     repeat first|refine aa ?_ |intro
     refine ag rfl (Spec.pre (yX (q:=q) (f:=g) (e:=7) (F:=br R.po P k (NH pn c R*(aM R.pl s.pl*(aK R.tb R.pl c.nb dN*(aE (bI c R s) 3*F)))))) (aG.bW Q (by unfold uc;rw[wi]) (by rw[rK];simp only[cy];exact ad))) ?_
     intro _
     repeat first|refine aa ?_ |intro
     exact aN (aO rfl () rfl (U.sat (ad)))
 ·have es:fw c s k f=(bN s f.id f.word {f.word with st:=2},{f with next:=4}):=by unfold fw;rw[if_neg (by omega),if_pos e]
  rw[es]
  obtain⟨h0,h1⟩:=h.id (by omega)
  simp only[cr,br]
  repeat first|refine aa ?_ |intro
  rename_i x
  have qn:({f.word with st:=2}:aJ).ok:=⟨by show 2≤3;decide,jT.2.1,jT.2.2.1,jT.2.2.2⟩
  refine aL 99 (NH pn c R*(Obj q 80 (cF f Q)*(Obj x 78 (wL {f.word with st:=2} [])*1))) rfl rfl rfl ?_
  repeat(first|refine aq ?_ |refine eD ?_)
  refine aI rfl rfl rfl rfl rfl (Spec.aV R.pl (uR (id:=f.id) (a:=f.word) (b:={f.word with st:=2}) hc hp h0 h1 jT qn)) (fun _=>ad) ?_
  intro _
  repeat(first|refine aq ?_ |refine eD ?_)
  repeat first|refine aa ?_ |intro
  have oa:(bN s f.id f.word {f.word with st:=2}).tb=s.tb:=by unfold bN;split<;>rfl
  rw[oa]
  exact aN (aO rfl () rfl (U.sat (aG.bW Q (by rfl) (ad))))
 ·have es:fw c s k f=(s,tU c s f):=by unfold fw;rw[if_neg (by omega),if_neg (by omega),if_pos e]
  rw[es]
  obtain⟨h0,h1⟩:=h.id (by omega)
  simp only[cr,br]
  repeat first|refine aa ?_ |intro
  refine ag rfl (Spec.pre (Wl (pn:=pn) (q:=q) (f:=f) (R:=R) (s:=s) (F:=br R.po P k (aE (bI c R s) 3*F)) hc hp bJ h0 h1) (aG.bW Q (by rfl) (by(try simp only[cy]);exact ad))) ?_
  intro _
  repeat first|refine aa ?_ |intro
  exact aN (aO rfl () rfl (U.sat (ad)))
 ·have es:fw c s k f=(bN s f.id f.word f.now,if fG s f.id f.word f.now=true then {f with next:=4}.goes c f.id else {f with next:=4}):=by unfold fw;rw[if_neg (by omega),if_neg (by omega),if_neg (by omega)]
  obtain⟨h0,h1⟩:=h.id (by omega)
  obtain⟨g,hg⟩:∃g:aH,g={f with next:=4}:=⟨_,rfl⟩
  have rJ:fB g:=by rw[hg];exact⟨bJ.da,bJ.tick,bJ.proto,bJ.addr,bJ.port,bJ.flags⟩
  have wj:g.id=f.id:=by rw[hg]
  have I0:g.word=f.word:=by rw[hg]
  have wm:g.now=f.now:=by rw[hg]
  have HZ:fw c s k f=(bN s g.id g.word g.now,if fG s g.id g.word g.now=true then g.goes c g.id else g):=by rw[es,wj,I0,wm,hg]
  rw[HZ]
  clear es HZ
  simp only[cr,br]
  repeat first|refine aa ?_ |intro
  refine jE (G:=cr q g Q (br R.po P k (NH pn c R*(aM R.pl s.pl*(aK R.tb R.pl c.nb s.tb*(aE (bI c R s) 3*F)))))) (by rw[hg];exact ad) ?_
  simp only[cr,br]
  refine aL 99 (NH pn c R*(Obj q 80 (cF g Q)*1)) rfl rfl rfl ?_
  repeat(first|refine aq ?_ |refine eD ?_)
  refine aI rfl rfl rfl rfl rfl (Spec.aV R.pl (uR (id:=g.id) (a:=g.word) (b:=g.now) hc hp (by omega) (by omega) (by rw[I0];exact jT) (by rw[wm];exact DO))) (fun _=>ad) ?_
  intro _
  repeat(first|refine aq ?_ |refine eD ?_)
  have oa:(bN s g.id g.word g.now).tb=s.tb:=by unfold bN;split<;>rfl
  rw[oa]
  generalize (bN s g.id g.word g.now).pl=Ai
  cases Dj:fG s g.id g.word g.now with
  |true=>
   rw[if_pos rfl]
   repeat first|refine aa ?_ |intro
   refine ag rfl (Spec.pre (CR (pn:=pn) (q:=q) (f:=g) (R:=R) (id:=g.id) (F:=br R.po P k (aM R.pl Ai*(aK R.tb R.pl c.nb s.tb*(aE (bI c R s) 3*F)))) hc rJ (by omega) (by omega)) (aG.bW Q (by rfl) (ad))) ?_
   intro _
   repeat first|refine aa ?_ |intro
   exact aN (aO rfl () rfl (U.sat (ad)))
  |false=>
   rw[if_neg (by decide)]
   repeat first|refine aa ?_ |intro
   exact aN (aO rfl () rfl (U.sat (aG.bW Q (by rfl) (ad))))
end
section
open Go.RowKit
set_option maxRecDepth 10000
attribute [local irreducible] EK EX ER EN EL ES EG az ba bf
variable {W:World} {F G:SL} {X:Cx} {kk:List KI} {σ:Env} {pn q:Option Addr} {f:aH} {c:NC} {R:eJ} {s:aW} {k:aR} {P:dS} {pp:Nat→Option Addr}
theorem nO (k:aR)(i:Nat)(a:dC):(k.bK i a).frame=k.frame∧(k.bK i a).aX=k.aX∧(k.bK i a).bp=k.bp∧(k.bK i a).cm=k.cm∧(k.bK i a).cj=k.cj∧(k.bK i a).iM=k.iM∧(k.bK i a).any=k.any∧(k.bK i a).ended=k.ended:=by
 unfold aR.bK
 split
 ·exact⟨rfl,rfl,rfl,rfl,rfl,rfl,rfl,rfl⟩
 ·split<;>exact⟨rfl,rfl,rfl,rfl,rfl,rfl,rfl,rfl⟩
theorem qy (s:aW)(i:Nat)(w:List Nat):(s.dP i w).pl=s.pl∧(s.dP i w).tb=s.tb∧(s.dP i w).ep=s.ep∧(s.dP i w).gs=s.gs:=by
 unfold aW.dP
 split
 ·exact⟨rfl,rfl,rfl,rfl⟩
 ·split<;>exact⟨rfl,rfl,rfl,rfl⟩
theorem NT {ps:Option Addr}{b:Bool}:Spec Tryz.prog 99 [.pointer ps] W (fe ps 3 none b*F) (fun _:Unit=> .bool false) (fun _=>fe ps 3 none b*F):=by
 refine Spec.of Tryz.func99 rfl Tryz.ntmps99 rfl ?_
 repeat first|refine aa ?_ |intro
 exact ae (aw rfl rfl () rfl (U.sat (ad)))
theorem Hu (ws:List Nat)(a:dC)(xi:bL):eh ws a ⟨0,xi,false⟩=((bh ws xi).1,(if(bh ws xi).2.done=true then {a with h:=if(bh ws xi).2.ports=[]then a.h else(bh ws xi).2.word,l:=a.l++(bh ws xi).2.ports.reverse}else a),⟨0,(bh ws xi).2,(bh ws xi).2.done⟩):=by
 simp[eh]
theorem Qm (ws:List Nat)(a:dC)(xi:bL):eh ws a ⟨3,xi,false⟩=(ws,a,⟨3,xi,true⟩):=by
 simp[eh]
theorem Ht (ws:List Nat)(a:dC)(xi:bL):eh ws a ⟨1,xi,false⟩=((bh ws xi).1,a,⟨1,(bh ws xi).2,(bh ws xi).2.done⟩):=by
 simp[eh]
theorem ln {α:Type}(a:Option Addr):jZ (α:=α) none a=none:=rfl
structure qU (c:NC)(k:aR)(f:aH):Prop where
 fin:fB f
 ez:kY f.ar.proto
 fill:f.next=6→∃x,f.fill=some x∧x.done=false∧((x.kind=0∧x.bG.Ok ((c.np+31)/32))∨x.kind=3)
 find:f.next=7→∃t,f.find=some t∧bt c.nb (3*c.np) t∧t.done=false
 lq:f.next=7→∃x,f.fill=some x∧x.kind=0∧x.done=true∧jd x.bG=true∧x.bG.words.length≤1000
 again:f.next=8→∃x,f.again=some x∧x.kind=1∧x.done=false∧x.bG.Ok ((c.np+31)/32)
 id:f.next=10∨f.next=11→0≤f.id∧f.id<((3*c.np:Nat):Int)
 word:f.word.ok
 len:(k.ca (aF f.ar.proto)).l.length≤1000
 top:dA (k.ca (aF f.ar.proto))<c.np
abbrev hF (q pn:Option Addr)(c:NC)(R:eJ)(P:dS)(F:SL)(r:aW×aR×aH):SL:=aG q r.2.2*br R.po P r.2.1 (NH pn c R*(aM R.pl r.1.pl*(aK R.tb R.pl c.nb r.1.tb*(aE (bI c R r.1) 3*F))))
set_option maxHeartbeats 2000000 in
theorem R2 (hT : gE W) (hc : c.Ok) (hk : nV c s k) (h : qU c k f) (e : f.next = 6) :
    Spec Tryz.prog 50 [.pointer pn, .pointer P.p, .pointer q] W (aG q f * br R.po P k (NH pn c R * (aM R.pl s.pl * (aK R.tb R.pl c.nb s.tb * (aE (bI c R s) 3 * F))))) (fun _ : Unit => .tuple #[]) (fun _ => hF q pn c R P F (cC c s k f)) := by
  refine Spec.of Tryz.func50 rfl Tryz.ntmps50 rfl ?_
  have j9 := hc.rk
  have bJ := h.fin
  have wu := bJ.proto
  have hlen := h.len
  have bl := gH f.ar.proto
  have ho := hk.out _ bl
  have hw := hk.words _ bl
  obtain ⟨x, jN, zQ, D6⟩ := h.fill e
  have es : cC c s k f = ({ s.dP (aF f.ar.proto) (eh (s.po (aF f.ar.proto)) (k.ca (aF f.ar.proto)) x).1 with tb := s.tb }, k.bK (aF f.ar.proto) (eh (s.po (aF f.ar.proto)) (k.ca (aF f.ar.proto)) x).2.1,
        if (eh (s.po (aF f.ar.proto)) (k.ca (aF f.ar.proto)) x).2.2.done = false then { f with fill := some (eh (s.po (aF f.ar.proto)) (k.ca (aF f.ar.proto)) x).2.2 }
        else if ny (eh (s.po (aF f.ar.proto)) (k.ca (aF f.ar.proto)) x).2.2 = true then { f with fill := some (eh (s.po (aF f.ar.proto)) (k.ca (aF f.ar.proto)) x).2.2, find := some (jh c 0 f.ar (-1) 0), next := 7 }
        else { f with fill := some (eh (s.po (aF f.ar.proto)) (k.ca (aF f.ar.proto)) x).2.2, next := 9 }) := by
    unfold cC; rw [if_pos e, jN]
  rw [es]
  clear es
  generalize zg : eh (s.po (aF f.ar.proto)) (k.ca (aF f.ar.proto)) x = D
  obtain ⟨gB, a', x'⟩ := D
  refine aG.open fun Q => ?_
  simp only [cr, hF]
  simp only [br]
  repeat first | refine aa ?_ | intro
  refine ag rfl (Spec.fE q P.p (rq (Q := Q) (k := k) (P := P) h.ez)) ?_
  intro _
  generalize aF f.ar.proto = kd at *
  obtain ⟨p1, p2, p3, p4⟩ := qy s kd gB
  obtain ⟨h1, h2, h3, h4, h5, h6, h7, h8⟩ := nO k kd a'
  have j7 : aE (bI c R { s.dP kd gB with tb := s.tb }) 3 = aE (bI c R (s.dP kd gB)) 3 := rfl
  rw [j7, uU (s := s) bl gB, Cw (k := k) bl a', p1]
  simp only [cR, h1, h2, h3, h4, h5, h6, h7, h8]
  rw [lM (k := k) bl ho, Aj (s := s) (G := F) bl]
  rcases D6 with ⟨x0, vh⟩ | x3
  · obtain ⟨xk, xi, xd⟩ := x
    dsimp only at x0 vh zQ jN
    subst x0 zQ
    have eC : ∀ (a i : Option Addr) (y : bL) (d : Bool), gO a i ⟨0, y, d⟩ = fe a 0 i d * bn i y := fun _ _ _ _ => rfl
    have hD := zg.symm.trans (Hu (s.po kd) (k.ca kd) xi)
    simp only [Prod.mk.injEq] at hD
    obtain ⟨e1, e2, e3⟩ := hD
    rw [jN, cy, eC, SL.cb]
    repeat first | refine aa ?_ | intro
    refine ag rfl (Spec.aV Q.fill (Spec.pre (N4 (pc := P.c kd) (ps := Q.fill) (sp := Q.fin) (pp := R.po kd) (n := c.np) (qo := none) (h := (k.ca kd).h) (l := (k.ca kd).l) hT hw vh hlen) (U.cons (U.at Q.fin rfl (U.at (P.c kd) rfl (U.at (R.po kd) rfl (U.refl _))))))) ?_
    intro _
    generalize bh (s.po kd) xi = D at *
    obtain ⟨wD, xD⟩ := D
    dsimp only at *
    subst e1 e2 e3
    cases hd : xD.done with
    | false =>
      rw [if_pos rfl, if_neg Bool.false_ne_true, if_neg Bool.false_ne_true]
      repeat first | refine aa ?_ | intro
      refine ae (dB rfl () rfl (U.sat (aG.bW Q (by rfl) ?_)))
      simp only [cy, ia, eC, ho, ln, nA, SL.cb, Bool.false_eq_true, if_true, if_false]
      exact ad
    | true =>
      rw [if_neg (fun hh => by cases hh), if_pos rfl, if_pos rfl]
      repeat first | refine aa ?_ | intro
      refine ag rfl (Spec.fE Q.fill Q.fin FP) ?_
      intro _
      have eN : ny ⟨0, xD, true⟩ = jd xD := by simp [ny]
      rw [eN]
      cases hn : jd xD with
      | true =>
        rw [if_pos rfl]
        repeat first | refine aa ?_ | intro
        obtain ⟨g, hg⟩ : ∃ g : aH, g = { f with fill := some ⟨0, xD, true⟩, next := 9 } := ⟨_, rfl⟩
        have oh : g.ar = f.ar := by rw [hg]
        have kA : g.find = f.find := by rw [hg]
        refine jE (G := Obj q 80 (cF g Q) * (ao 5 1 Q.b.1 f.b.length Q.b.2 (aA f.b) * (bu (cD Q.bE) f.bE * (bu (ay Q.find) f.find * (fe Q.fill 0 Q.fin true * (bn Q.fin xD * (bu (gO Q.again Q.nX) f.again * (bu (ay Q.enter) f.enter * (ao 5 1 Q.ga.1 f.fD.length Q.ga.2 (aA f.fD) * (Obj P.p 88 (cR P k) * (bj (P.c kd) (R.po kd) (nA (k.ca kd).h xD) ((k.ca kd).l ++ xD.ports.reverse) none * (bD (R.po kd) c.np gB * (aE (df (eG R.po P k) kd) 3 * (dR P.wh k.bp * (fU iq gy P.m k.cm * (ao 5 1 P.told.1 k.cj.length P.told.2 (aA k.cj) * (ao 287 2 P.ended.1 k.ended.length P.ended.2 (mb k.ended) * (NH pn c R * (aM R.pl s.pl * (aK R.tb R.pl c.nb s.tb * (aE (df (bI c R s) kd) 3 * F))))))))))))))))))))) (by rw [hg]; exact ad) ?_
        refine aL 13 (NH pn c R * (Obj q 80 (cF g Q) * 1)) rfl rfl rfl ?_
        repeat (first | refine aq ?_ | refine aY 0 rfl rfl rfl rfl (by decide +kernel) (av) rfl ?_ | refine aY 1 rfl rfl rfl rfl (by decide +kernel) (av) rfl ?_ | refine aY 2 rfl rfl rfl rfl (by decide +kernel) (av) rfl ?_ | refine aY 3 rfl rfl rfl rfl (by decide +kernel) (av) rfl ?_)
        rw [oh]
        refine aI rfl rfl rfl rfl rfl (Spec.aV R.tb (GV j9 (by omega) bJ.addr bJ.port)) (fun _ => ad) ?_
        intro z
        repeat (first | refine aq ?_ | refine aY 0 rfl rfl rfl rfl (by decide +kernel) (av) rfl ?_ | refine aY 1 rfl rfl rfl rfl (by decide +kernel) (av) rfl ?_ | refine aY 2 rfl rfl rfl rfl (by decide +kernel) (av) rfl ?_ | refine aY 3 rfl rfl rfl rfl (by decide +kernel) (av) rfl ?_)
        (refine my rfl (di rfl rfl rfl rfl rfl rfl) (by decide +kernel) rfl ?_); repeat (first | refine gu rfl rfl rfl (iy rfl rfl) (by decide +kernel) (by decide +kernel) rfl ?_ | refine gu rfl rfl rfl (ix rfl rfl) (by decide +kernel) (by decide +kernel) rfl ?_ | refine mz rfl rfl (di rfl rfl rfl rfl rfl rfl) (by decide +kernel) (by decide +kernel) rfl ?_ | refine eD ?_)
        repeat first | refine aa ?_ | intro
        subst hg
        refine aN (aO rfl () rfl (U.sat (aG.bW { Q with find := z } (by rfl) ?_)))
        dsimp only [jh]
        simp only [cy, ia, eC, ho, ln, nA, SL.cb, Bool.false_eq_true, if_true, if_false]
        exact ad
      | false =>
        rw [if_neg Bool.false_ne_true]
        repeat first | refine aa ?_ | intro
        refine aN (aO rfl () rfl (U.sat (aG.bW Q (by rfl) ?_)))
        simp only [cy, ia, eC, ho, ln, nA, SL.cb, Bool.false_eq_true, if_true, if_false]
        exact ad
  · obtain ⟨xk, xi, xd⟩ := x
    dsimp only at x3 zQ jN
    subst x3 zQ
    have eC : ∀ (a i : Option Addr) (y : bL) (d : Bool), gO a i ⟨3, y, d⟩ = fe a 3 none d := fun _ _ _ _ => rfl
    have hD := zg.symm.trans (Qm (s.po kd) (k.ca kd) xi)
    simp only [Prod.mk.injEq] at hD
    obtain ⟨e1, e2, e3⟩ := hD
    subst e1 e2 e3
    rw [jN, cy, eC]
    rw [if_neg (fun hh => by cases hh)]
    have eN : ny ⟨3, xi, true⟩ = false := by simp [ny]
    rw [eN, if_neg Bool.false_ne_true]
    repeat first | refine aa ?_ | intro
    refine ag rfl (Spec.fE (P.c kd) Q.fill N6) ?_
    intro _
    repeat first | refine aa ?_ | intro
    refine ag rfl (Spec.aV Q.fill NT) ?_
    intro _
    repeat first | refine aa ?_ | intro
    refine aN (aO rfl () rfl (U.sat (aG.bW Q (by rfl) ?_)))
    simp only [cy, ia, eC, ho, ln, nA, SL.cb, Bool.false_eq_true, if_true, if_false]
    exact ad
end
section
open Go.RowKit
set_option maxRecDepth 10000
attribute [local irreducible] EK EX ER EN EL ES EG az ba bf
variable {W:World} {F G:SL} {X:Cx} {kk:List KI} {σ:Env} {pn q:Option Addr} {f:aH} {c:NC} {R:eJ} {s:aW} {k:aR} {P:dS} {pp:Nat→Option Addr}
theorem WW {i:Nat}(hi:i<3){w:List Nat}:(s.dP i w).po i=w:=by
 rcases(show i=0∨i=1∨i=2 by omega)with rfl|rfl|rfl<;>rfl
set_option maxHeartbeats 2000000 in
theorem R3 (hc : c.Ok) (hp : cK (3 * c.np) s.pl) (ht : dD c.nb (3 * c.np) s.tb) (hk : nV c s k) (h : qU c k f) (e : f.next = 7) :
    Spec Tryz.prog 50 [.pointer pn, .pointer P.p, .pointer q] W (aG q f * br R.po P k (NH pn c R * (aM R.pl s.pl * (aK R.tb R.pl c.nb s.tb * (aE (bI c R s) 3 * F))))) (fun _ : Unit => .tuple #[]) (fun _ => hF q pn c R P F (cC c s k f)) := by
  refine Spec.of Tryz.func50 rfl Tryz.ntmps50 rfl ?_
  have j9 := hc.rk
  have bJ := h.fin
  have wu := bJ.proto
  have qj := h.ez
  have bl := gH f.ar.proto
  have ho := hk.out _ bl
  obtain ⟨t, la, jR, wV⟩ := h.find e
  obtain ⟨x, jN, x0, x1, xn, xl⟩ := h.lq e
  obtain ⟨xk, xi, xd⟩ := x
  dsimp only at x0 x1 xn xl jN
  subst x0 x1
  have eC : ∀ (a i : Option Addr) (y : bL) (d : Bool), gO a i ⟨0, y, d⟩ = fe a 0 i d * bn i y := fun _ _ _ _ => rfl
  have uq : ∀ (a i : Option Addr) (y : bL) (d : Bool), gO a i ⟨1, y, d⟩ = fe a 1 i d * bn i y := fun _ _ _ _ => rfl
  have es : cC c s k f = ({ s with tb := (bA s.pl c.nb s.tb t).1 }, k, if (bA s.pl c.nb s.tb t).2.done = false then { f with find := some (bA s.pl c.nb s.tb t).2 }
        else if (bA s.pl c.nb s.tb t).2.end_ = 0 then { f with find := some (bA s.pl c.nb s.tb t).2 }.fj (bA s.pl c.nb s.tb t).2.found (bA s.pl c.nb s.tb t).2.aQ
        else { f with find := some (bA s.pl c.nb s.tb t).2, again := some ⟨1, oC xi, false⟩, next := 8 }) := by
    unfold cC; rw [if_neg (by omega), if_pos e, la, jN]; rfl
  rw [es]
  clear es
  refine aG.open fun Q => ?_
  have j7 : ∀ z, aE (bI c R { s with tb := z }) 3 = aE (bI c R s) 3 := fun _ => rfl
  simp only [cr, hF, br, la, jN, cy, eC, SL.cb, j7]
  repeat first | refine aa ?_ | intro
  refine ag rfl (Spec.fE q P.p (rq (Q := Q) (k := k) (P := P) h.ez)) ?_
  intro _
  repeat first | refine aa ?_ | intro
  refine aL 99 (NH pn c R * (Obj q 80 (cF f Q) * 1)) rfl rfl rfl ?_
  repeat (first | refine aq ?_ | refine eD ?_)
  refine aI rfl rfl rfl rfl rfl (Spec.yI Q.find R.tb R.pl (Ci j9 ht hp jR wV)) (fun _ => ad) ?_
  intro _
  repeat (first | refine aq ?_ | refine eD ?_)
  generalize bA s.pl c.nb s.tb t = D at *
  obtain ⟨dN, t'⟩ := D
  dsimp only at *
  cases hd : t'.done with
  | false =>
    rw [if_pos rfl]
    repeat first | refine aa ?_ | intro
    refine ae (dB rfl () rfl (U.sat (aG.bW Q (by rfl) ?_)))
    simp only [jN]
    simp only [cy, ia, eC, ho, ln, nA, SL.cb, Bool.false_eq_true, if_true, if_false]
    exact ad
  | true =>
    rw [if_neg (fun hh => by cases hh)]
    repeat first | refine aa ?_ | intro
    refine ag rfl (Spec.aV Q.find ub) ?_
    intro _
    by_cases h0 : t'.end_ = 0
    · rw [if_pos h0]
      repeat first | refine aa ?_ | intro
      refine ag rfl (Spec.aV Q.find A7) ?_
      intro _
      repeat first | refine aa ?_ | intro
      refine ag rfl (Spec.pre (yZ (q := q) (f := { f with find := some t' }) (id := t'.found) (w := t'.aQ) (F := br R.po P k (NH pn c R * (aM R.pl s.pl * (aK R.tb R.pl c.nb dN * (aE (bI c R s) 3 * F)))))) (aG.bW Q (by rfl) (by simp only [jN]; simp only [cy, ia, eC, ho, ln, nA, SL.cb, Bool.false_eq_true, if_true, if_false]; exact ad))) ?_
      intro _
      repeat first | refine aa ?_ | intro
      exact ae (dB rfl () rfl (U.sat (by rw [← jN]; simp only [br]; exact ad)))
    · rw [if_neg h0]
      rw [lM (k := k) bl ho, lM (k := k) bl ho, Aj (s := s) (G := F) bl]
      repeat first | refine aa ?_ | intro
      refine ag rfl (Spec.aV Q.fill (Spec.pre (NM (q := Q.fin) (pc := P.c (aF f.ar.proto)) (ps := Q.fill) (pp := R.po (aF f.ar.proto)) (n := c.np) (h := (k.ca (aF f.ar.proto)).h) (l := (k.ca (aF f.ar.proto)).l) (qo := none) xn xl) (U.cons (U.at Q.fin rfl (U.at (P.c (aF f.ar.proto)) rfl (U.at (R.po (aF f.ar.proto)) rfl (U.refl _))))))) ?_
      intro z
      repeat first | refine aa ?_ | intro
      refine aN (aO rfl () rfl (U.sat (aG.bW { Q with again := z.1, nX := z.2 } (by rfl) ?_)))
      simp only [jN]
      simp only [cy, ia, eC, ho, ln, nA, SL.cb, Bool.false_eq_true, if_true, if_false]
      simp only [uq, SL.cb]
      exact ad
set_option maxHeartbeats 2000000 in
theorem R4 (hT:gE W)(hc:c.Ok)(hk:nV c s k)(h:qU c k f)(e:f.next=8):
  Spec Tryz.prog 50 [.pointer pn,.pointer P.p,.pointer q] W (aG q f*br R.po P k (NH pn c R*(aM R.pl s.pl*(aK R.tb R.pl c.nb s.tb*(aE (bI c R s) 3*F))))) (fun _:Unit=> .tuple #[]) (fun _=>hF q pn c R P F (cC c s k f)):=by
 refine Spec.of Tryz.func50 rfl Tryz.ntmps50 rfl ?_
 have j9:=hc.rk
 have bJ:=h.fin
 have wu:=bJ.proto
 have qj:=h.ez
 have bl:=gH f.ar.proto
 have ho:=hk.out _ bl
 have hw:=hk.words _ bl
 obtain⟨x,jN,x0,xd,vh⟩:=h.again e
 obtain⟨xk,xi,xd'⟩:=x
 dsimp only at x0 xd vh jN
 subst x0 xd
 have uq:∀(a i:Option Addr) (y:bL) (d:Bool),gO a i ⟨1,y,d⟩=fe a 1 i d*bn i y:=fun _ _ _ _=>rfl
 have es:cC c s k f=(s.dP (aF f.ar.proto) (bh (s.po (aF f.ar.proto)) xi).1,k,
   if(bh (s.po (aF f.ar.proto)) xi).2.done=false then {f with again:=some ⟨1,(bh (s.po (aF f.ar.proto)) xi).2,(bh (s.po (aF f.ar.proto)) xi).2.done⟩}
   else if(bh (s.po (aF f.ar.proto)) xi).2.alike=true then {f with again:=some ⟨1,(bh (s.po (aF f.ar.proto)) xi).2,(bh (s.po (aF f.ar.proto)) xi).2.done⟩}.fin [] 8
   else {f with again:=some ⟨1,(bh (s.po (aF f.ar.proto)) xi).2,(bh (s.po (aF f.ar.proto)) xi).2.done⟩}.qa c k):=by
  unfold cC;rw[if_neg (by omega),if_neg (by omega),if_pos e,jN];dsimp only;rw[Ht]
 rw[es]
 clear es
 obtain⟨T2,adU⟩:=yO hw vh
 refine aG.open fun Q=> ?_
 obtain⟨p1,p2,p3,p4⟩:=qy s (aF f.ar.proto) (bh (s.po (aF f.ar.proto)) xi).1
 simp only[cr,hF,br,jN,cy,uq,SL.cb,p1,p2]
 rw[uU (s:=s) bl,Aj (s:=s) (G:=F) bl]
 generalize zg:bh (s.po (aF f.ar.proto)) xi=D at*
 rw[lM (k:=k) bl ho,lM (k:=k) bl ho]
 repeat first|refine aa ?_ |intro
 refine ag rfl (Spec.fE q P.p (rq (Q:=Q) (k:=k) (P:=P) h.ez)) ?_
 intro _
 repeat first|refine aa ?_ |intro
 refine ag rfl (Spec.aV Q.again (Spec.pre (N3 (pc:=P.c (aF f.ar.proto)) (ps:=Q.again) (sp:=Q.nX) (pp:=R.po (aF f.ar.proto)) (n:=c.np) (qo:=none) (h:=(k.ca (aF f.ar.proto)).h) (l:=(k.ca (aF f.ar.proto)).l) hT hw vh) (U.cons (U.at Q.nX rfl (U.at (P.c (aF f.ar.proto)) rfl (U.at (R.po (aF f.ar.proto)) rfl (U.refl _))))))) ?_
 intro _
 rw[zg]
 obtain⟨gB,xD⟩:=D
 dsimp only at*
 cases hd:xD.done with
 |false=>
  rw[if_pos rfl]
  repeat first|refine aa ?_ |intro
  refine ae (dB rfl () rfl (U.sat (aG.bW Q (by rfl) ?_)))
  simp only[jN,cy,SL.cb]
  simp only[uq,SL.cb]
  exact ad
 |true=>
  rw[if_neg (fun hh=>by cases hh)]
  repeat first|refine aa ?_ |intro
  refine ag rfl (Spec.fE Q.again Q.nX NV) ?_
  intro _
  cases ha:xD.alike with
  |true=>
   rw[if_pos rfl]
   repeat first|refine aa ?_ |intro
   refine ag rfl (Spec.pre (yX (q:=q) (f:={f with again:=some ⟨1,xD,true⟩}) (e:=8) (F:=br R.po P k (NH pn c R*(aM R.pl s.pl*(aK R.tb R.pl c.nb s.tb*(aE (bI c R (s.dP (aF f.ar.proto) gB)) 3*F)))))) (aG.bW Q (by rfl) (by simp only[cy,uq,SL.cb,br];rw[uU (s:=s) bl,lM (k:=k) bl ho];exact ad))) ?_
   intro _
   repeat first|refine aa ?_ |intro
   refine ae (dB rfl () rfl (U.sat ?_))
   simp only[br];rw[uU (s:=s) bl,lM (k:=k) bl ho]
   exact ad
  |false=>
   rw[if_neg Bool.false_ne_true]
   repeat first|refine aa ?_ |intro
   refine ag rfl (Spec.pre (KF (pn:=pn) (q:=q) (f:={f with again:=some ⟨1,xD,true⟩}) (R:=R) (s:=s.dP (aF f.ar.proto) gB) (k:=k) (P:=P) (F:=NH pn c R*(aM R.pl s.pl*(aK R.tb R.pl c.nb s.tb*F))) hc qj ho (by rw[WW bl];exact T2)) (aG.bW Q (by rfl) (by simp only[cy,uq,SL.cb,br];rw[uU (s:=s) bl,lM (k:=k) bl ho];exact ad))) ?_
   intro _
   repeat first|refine aa ?_ |intro
   refine aN (aO rfl () rfl (U.sat ?_))
   simp only[br];rw[uU (s:=s) bl,lM (k:=k) bl ho]
   exact ad
end
section
open Go.RowKit
set_option maxRecDepth 10000
attribute [local irreducible] EK EX ER EN EL ES EG az ba bf
variable {W:World} {F G:SL} {X:Cx} {kk:List KI} {σ:Env} {pn q:Option Addr} {f:aH} {c:NC} {R:eJ} {s:aW} {k:aR} {P:dS} {pp:Nat→Option Addr}
theorem V9 {p:Option Addr}{id:Int}(hc:c.Ok)(hp:cK (3*c.np) s.pl)(h0:0≤id)(h1:id<((3*c.np:Nat):Int))(bJ:fB f):Spec Tryz.prog 104 [.pointer p,.int .i64 id,.agg #[.int .i64 (f.ar.proto:Int),.int .u32 (f.ar.addr:Int),.int .u16 (f.ar.port:Int)]] W (aM p s.pl*F) (fun _:Unit=> .int .i64 0) (fun _=>aM p (oE s id f.ar).pl*F):=by
 have c3:=hc.np
 have h3:=bJ.proto
 have h:=Pp (W:=W) (F:=F) (p:=p) (ws:=s.pl) (n:=3*c.np) (i:=id.toNat) (a:=f.ar.proto) (b:=f.ar.addr) (c:=f.ar.port) hp.len (by omega) (by omega) (by omega) bJ.addr bJ.port
 rw[show((id.toNat:Nat):Int)=id by omega]at h
 exact h
set_option maxHeartbeats 2000000 in
theorem R0 (hc:c.Ok)(hp:cK (3*c.np) s.pl)(hk:nV c s k)(h:qU c k f)(e:f.next=10):
  Spec Tryz.prog 50 [.pointer pn,.pointer P.p,.pointer q] W (aG q f*br R.po P k (NH pn c R*(aM R.pl s.pl*(aK R.tb R.pl c.nb s.tb*(aE (bI c R s) 3*F))))) (fun _:Unit=> .tuple #[]) (fun _=>hF q pn c R P F (cC c s k f)):=by
 refine Spec.of Tryz.func50 rfl Tryz.ntmps50 rfl ?_
 have bJ:=h.fin
 have qj:=h.ez
 have bl:=gH f.ar.proto
 obtain⟨h0,h1⟩:=h.id (Or.inl e)
 have es:cC c s k f=(oE s f.id f.ar,k,{f with next:=11}):=by unfold cC;rw[if_neg (by omega),if_neg (by omega),if_neg (by omega),if_neg (by omega),if_pos e]
 rw[es]
 clear es
 refine aG.open fun Q=> ?_
 have j7:aE (bI c R (oE s f.id f.ar)) 3=aE (bI c R s) 3:=rfl
 have oa:(oE s f.id f.ar).tb=s.tb:=rfl
 simp only[cr,hF,br,j7,oa]
 repeat first|refine aa ?_ |intro
 refine ag rfl (Spec.fE q P.p (rq (Q:=Q) (k:=k) (P:=P) h.ez)) ?_
 intro _
 repeat first|refine aa ?_ |intro
 refine aL 12 (NH pn c R*(Obj q 80 (cF f Q)*1)) rfl rfl rfl ?_
 repeat(first|refine aq ?_ |refine eD ?_)
 refine kh rfl rfl rfl rfl (Spec.aV R.pl (V9 (s:=s) hc hp h0 h1 bJ)) ?_
 intro _
 repeat(first|refine aq ?_ |refine eD ?_)
 repeat first|refine aa ?_ |intro
 exact aN (aO rfl () rfl (U.sat (aG.bW Q (by rfl) (ad))))
theorem UH (hp:kY f.ar.proto):fX (f.ar.proto:Int)=((aF f.ar.proto:Nat):Int):=by
 rcases hp with e|e|e<;>rw[e]<;>rfl
set_option maxHeartbeats 2000000 in
theorem R5 (hc:c.Ok)(hp:cK (3*c.np) s.pl)(hk:nV c s k)(h:qU c k f)(e:f.next=9):
  Spec Tryz.prog 50 [.pointer pn,.pointer P.p,.pointer q] W (aG q f*br R.po P k (NH pn c R*(aM R.pl s.pl*(aK R.tb R.pl c.nb s.tb*(aE (bI c R s) 3*F))))) (fun _:Unit=> .tuple #[]) (fun _=>hF q pn c R P F (cC c s k f)):=by
 refine Spec.of Tryz.func50 rfl Tryz.ntmps50 rfl ?_
 have bJ:=h.fin
 have qj:=h.ez
 have bl:=gH f.ar.proto
 have ho:=hk.out _ bl
 have hlen:=h.len
 have ma:=h.top
 have c3:=hc.np
 have zw:=UH qj
 have es:cC c s k f=(s,k,{f with id:=((aF f.ar.proto*c.np+dA (k.ca (aF f.ar.proto)):Nat):Int),word:=bC s ((aF f.ar.proto*c.np+dA (k.ca (aF f.ar.proto)):Nat):Int),next:=10}):=by unfold cC;rw[if_neg (by omega),if_neg (by omega),if_neg (by omega),if_pos e]
 rw[es]
 clear es
 refine aG.open fun Q=> ?_
 simp only[cr,hF,br]
 repeat first|refine aa ?_ |intro
 refine ag rfl (Spec.fE q P.p (rq (Q:=Q) (k:=k) (P:=P) h.ez)) ?_
 intro _
 rw[lM (k:=k) bl ho]
 generalize aF f.ar.proto=kd at*
 repeat first|refine aa ?_ |intro
 refine ag rfl (Spec.aV (P.c kd) (G0 (by omega))) ?_
 intro _
 unfold u6
 have et:(k.ca kd).l.getD ((k.ca kd).l.length-1) 0=dA (k.ca kd):=rfl
 rw[et]
 generalize dA (k.ca kd)=tp at*
 repeat first|refine aa ?_ |intro
 refine aL 16 (NH pn c R*(Obj q 80 (cF f Q)*1)) rfl rfl rfl ?_
 repeat(first|refine aq ?_ |refine aY 0 rfl rfl rfl rfl (by decide+kernel) (av) rfl ?_ |refine aY 1 rfl rfl rfl rfl (by decide+kernel) (av) rfl ?_ |refine aY 2 rfl rfl rfl rfl (by decide+kernel) (av) rfl ?_ |refine aY 3 rfl rfl rfl rfl (by decide+kernel) (av) rfl ?_)
 refine aI rfl rfl rfl rfl rfl (Bh _) (fun _=>ad) ?_
 intro _
 rw[zw]
 have hm:((kd:Int)*(c.np:Int))=((kd*c.np:Nat):Int):=by simp
 have DG:kd*c.np≤2*c.np:=Nat.mul_le_mul_right _ (by omega)
 repeat(first|refine aq ?_ |refine aY 0 rfl rfl rfl rfl (by decide+kernel) (av) rfl ?_ |refine aY 1 rfl rfl rfl rfl (by decide+kernel) (av) rfl ?_ |refine aY 2 rfl rfl rfl rfl (by decide+kernel) (av) rfl ?_ |refine aY 3 rfl rfl rfl rfl (by decide+kernel) (av) rfl ?_)
 (refine my rfl (di rfl rfl rfl rfl rfl rfl) (by decide+kernel) rfl ?_);repeat(first|refine gu rfl rfl rfl (iy rfl rfl) (by decide+kernel) (by decide+kernel) rfl ?_ |refine gu rfl rfl rfl (ix rfl rfl) (by decide+kernel) (by decide+kernel) rfl ?_ |refine mz rfl rfl (di rfl rfl rfl rfl rfl rfl) (by decide+kernel) (by decide+kernel) rfl ?_ |refine eD ?_)
 rw[show((kd:Int)*(c.np:Int)+(tp:Int))=((kd*c.np+tp:Nat):Int)by rw[hm];simp]
 obtain⟨id,hid⟩:∃id:Int,id=((kd*c.np+tp:Nat):Int):=⟨_,rfl⟩
 have h0:0≤id:=by omega
 have h1:id<((3*c.np:Nat):Int):=by omega
 rw[←hid]
 clear hm DG hid
 repeat first|refine aa ?_ |intro
 obtain⟨g,hg⟩:∃g:aH,g={f with id:=id}:=⟨_,rfl⟩
 have oh:g.id=id:=by rw[hg]
 refine jE (G:=Obj q 80 (cF g Q)*(ao 5 1 Q.b.1 f.b.length Q.b.2 (aA f.b)*(bu (cD Q.bE) f.bE*(bu (ay Q.find) f.find*(bu (gO Q.fill Q.fin) f.fill*(bu (gO Q.again Q.nX) f.again*(bu (ay Q.enter) f.enter*(ao 5 1 Q.ga.1 f.fD.length Q.ga.2 (aA f.fD)*(Obj P.p 88 (cR P k)*(bj (P.c kd) (R.po kd) (k.ca kd).h (k.ca kd).l none*(aE (df (eG R.po P k) kd) 3*(dR P.wh k.bp*(fU iq gy P.m k.cm*(ao 5 1 P.told.1 k.cj.length P.told.2 (aA k.cj)*(ao 287 2 P.ended.1 k.ended.length P.ended.2 (mb k.ended)*(NH pn c R*(aM R.pl s.pl*(aK R.tb R.pl c.nb s.tb*(aE (bI c R s) 3*F))))))))))))))))))) (by rw[hg];exact ad) ?_
 refine aL 13 (NH pn c R*(Obj q 80 (cF g Q)*1)) rfl rfl rfl ?_
 repeat(first|refine aq ?_ |refine aY 0 rfl rfl rfl rfl (by decide+kernel) (av) rfl ?_ |refine aY 1 rfl rfl rfl rfl (by decide+kernel) (av) rfl ?_ |refine aY 2 rfl rfl rfl rfl (by decide+kernel) (av) rfl ?_ |refine aY 3 rfl rfl rfl rfl (by decide+kernel) (av) rfl ?_)
 rw[oh]
 refine aI rfl rfl rfl rfl rfl (Spec.aV R.pl (tB hc hp h0 h1)) (fun _=>ad) ?_
 intro _
 repeat(first|refine aq ?_ |refine aY 0 rfl rfl rfl rfl (by decide+kernel) (av) rfl ?_ |refine aY 1 rfl rfl rfl rfl (by decide+kernel) (av) rfl ?_ |refine aY 2 rfl rfl rfl rfl (by decide+kernel) (av) rfl ?_ |refine aY 3 rfl rfl rfl rfl (by decide+kernel) (av) rfl ?_)
 (refine my rfl (di rfl rfl rfl rfl rfl rfl) (by decide+kernel) rfl ?_);repeat(first|refine gu rfl rfl rfl (iy rfl rfl) (by decide+kernel) (by decide+kernel) rfl ?_ |refine gu rfl rfl rfl (ix rfl rfl) (by decide+kernel) (by decide+kernel) rfl ?_ |refine mz rfl rfl (di rfl rfl rfl rfl rfl rfl) (by decide+kernel) (by decide+kernel) rfl ?_ |refine eD ?_)
 repeat first|refine aa ?_ |intro
 subst hg
 exact aN (aO rfl () rfl (U.sat (aG.bW Q (by rfl) (ad))))
end
section
open Go.RowKit
set_option maxRecDepth 10000
attribute [local irreducible] EK EX ER EN EL ES EG az ba bf
variable {W:World} {F G:SL} {X:Cx} {kk:List KI} {σ:Env} {pn q:Option Addr} {f:aH} {c:NC} {R:eJ} {s:aW} {k:aR} {P:dS} {pp:Nat→Option Addr} {pc pw po:Option Addr}
def jX (f:aH):aJ:=⟨1,(f.word.gen+1)%65536,iF f.ar.proto 0 true f.part.flags,f.tick.toNat⟩
set_option maxHeartbeats 2000000 in
theorem Wb {h:Nat}{l:List Nat}(hc:c.Ok)(hp:cK (3*c.np) s.pl)(bJ:fB f)(h0:0≤f.id)(h1:f.id<((3*c.np:Nat):Int))(hw:f.word.ok)(hl:l.length≤100000):
  Spec Tryz.prog 105 [.pointer pn,.pointer pc,.pointer pw,.pointer q] W (aG q f*(NH pn c R*(aM R.pl s.pl*(aK R.tb R.pl c.nb s.tb*(bj pc po h l none*F))))) (fun _:Unit=> .tuple #[])
   (fun _=>aG q (if fG s f.id f.word (jX f)=true then {f with word:=jX f,made:=true,fY:=f.id.toNat,enter:=some (jh c 1 f.ar f.id 0),next:=12}else {f with next:=9})*(NH pn c R*(aM R.pl (bN s f.id f.word (jX f)).pl*(aK R.tb R.pl c.nb s.tb*(bj pc po h (if fG s f.id f.word (jX f)=true then l.take (l.length-1)else l) none*F))))):=by
 refine Spec.of Tryz.func105 rfl Tryz.ntmps105 rfl ?_
 have j9:=hc.rk
 have wu:=bJ.proto
 have zq:=bJ.flags
 have hg:=hw.2.1
 have nh:((f.tick.toNat:Nat):Int)=f.tick:=by have:=bJ.tick;omega
 have hL:wL (jX f) []=[.int .i64 1,.int .i64 (bits .and .i64 ((f.word.gen:Int)+1) 65535),.int .i64 (iF f.ar.proto 0 true f.part.flags:Int),.int .i64 f.tick]:=by
  show [Value.int .i64 1,.int .i64 (((f.word.gen+1)%65536:Nat):Int),.int .i64 (iF f.ar.proto 0 true f.part.flags:Int),.int .i64 (f.tick.toNat:Int)]=_
  rw[nh,Iv hg]
 have gx:(jX f).ok:=⟨by show 1≤3;decide,by show(f.word.gen+1)%65536≤65535;omega,by have:=Ez (proto:=f.ar.proto) (s:=0) (flags:=f.part.flags) (out:=true) (by decide);show iF f.ar.proto 0 true f.part.flags≤_;omega,by show f.tick.toNat≤4294967295;have:=bJ.tick;omega⟩
 refine aG.open fun Q=> ?_
 simp only[cr]
 refine qQ ?_
 refine kN (γ:=Option Addr) (fun _=>True) (fun y=>[(0,.pointer pn),(1,.pointer pc),(2,.pointer pw),(3,.pointer q),(8,.pointer y)]) (fun y=>Obj y 78 (wL (jX f) [])*cr q f Q (NH pn c R*(aM R.pl s.pl*(aK R.tb R.pl c.nb s.tb*(bj pc po h l none*F))))) ?_ ?_
 ·repeat first|refine aa ?_ |intro
  refine aL 24 (NH pn c R*(Obj q 80 (cF f Q)*1)) rfl rfl rfl ?_
  repeat(first|refine aq ?_ |refine eD ?_)
  refine qP (i:=17) (j:=23) (sx rfl rfl rfl rfl (Bk f.ar.proto 0 f.part.flags true (by decide) zq wu) (fun _=>ad) ?_) (sA rfl rfl (pO rfl) rfl (fun _=>ad) ?_)
  ·intro _
   repeat(first|refine bQ ?_ |(refine bU ?_;intro)|refine bR ?_ |refine bS ?_ |refine bT ?_ |refine eD ?_)
   rename_i y
   repeat first|refine aa ?_ |intro
   exact ei y trivial ⟨rfl,rfl,rfl,rfl,rfl,trivial⟩ (U.sat (by rw[hL];exact ad))
  ·intro y
   refine aI rfl rfl rfl rfl rfl (Bk f.ar.proto 0 f.part.flags true (by decide) zq wu) (fun _=>ad) ?_
   intro _
   repeat(first|refine bQ ?_ |(refine bU ?_;intro)|refine bR ?_ |refine bS ?_ |refine bT ?_ |refine eD ?_)
   repeat first|refine aa ?_ |intro
   exact ei y trivial ⟨rfl,rfl,rfl,rfl,rfl,trivial⟩ (U.sat (by rw[hL];exact ad))
 intro y _
 clear hL
 generalize jX f=w at*
 simp only[cr]
 repeat first|refine aa ?_ |intro
 refine aL 99 (Obj y 78 (wL w [])*(NH pn c R*(Obj q 80 (cF f Q)*1))) rfl rfl rfl ?_
 repeat(first|refine aq ?_ |refine eD ?_)
 refine aI rfl rfl rfl rfl rfl (Spec.aV R.pl (uR (id:=f.id) (a:=f.word) (b:=w) hc hp h0 h1 hw gx)) (fun _=>ad) ?_
 intro _
 repeat(first|refine aq ?_ |refine eD ?_)
 cases jM:fG s f.id f.word w with
 |false=>
  rw[if_neg Bool.false_ne_true,if_neg Bool.false_ne_true]
  repeat first|refine aa ?_ |intro
  exact ae (dB rfl () rfl (U.sat (aG.bW Q (by rfl) (ad))))
 |true=>
  rw[if_pos rfl,if_pos rfl]
  repeat first|refine aa ?_ |intro
  refine ag rfl (Spec.aV pc (Pe hl)) ?_
  intro _
  repeat first|refine aa ?_ |intro
  refine aL 10 (Obj y 78 (wL w [])*(Obj q 80 (cF f Q)*1)) rfl rfl rfl ?_
  repeat(first|refine aq ?_ |refine aY 0 rfl rfl rfl rfl (by decide+kernel) (av) rfl ?_ |refine aY 1 rfl rfl rfl rfl (by decide+kernel) (av) rfl ?_ |refine aY 2 rfl rfl rfl rfl (by decide+kernel) (av) rfl ?_ |refine aY 3 rfl rfl rfl rfl (by decide+kernel) (av) rfl ?_)
  (refine my rfl (di rfl rfl rfl rfl rfl rfl) (by decide+kernel) rfl ?_);repeat(first|refine gu rfl rfl rfl (iy rfl rfl) (by decide+kernel) (by decide+kernel) rfl ?_ |refine gu rfl rfl rfl (ix rfl rfl) (by decide+kernel) (by decide+kernel) rfl ?_ |refine mz rfl rfl (di rfl rfl rfl rfl rfl rfl) (by decide+kernel) (by decide+kernel) rfl ?_ |refine eD ?_)
  repeat first|refine aa ?_ |intro
  obtain⟨g,hg⟩:∃g:aH,g={f with word:=w,made:=true,fY:=f.id.toNat}:=⟨_,rfl⟩
  have oh:g.ar=f.ar:=by rw[hg]
  have kA:g.id=f.id:=by rw[hg]
  have zz:((f.id.toNat:Nat):Int)=f.id:=by omega
  refine jE (G:=Obj q 80 (cF g Q)*(ao 5 1 Q.b.1 f.b.length Q.b.2 (aA f.b)*(bu (cD Q.bE) f.bE*(bu (ay Q.find) f.find*(bu (gO Q.fill Q.fin) f.fill*(bu (gO Q.again Q.nX) f.again*(bu (ay Q.enter) f.enter*(ao 5 1 Q.ga.1 f.fD.length Q.ga.2 (aA f.fD)*(bj pc po h (l.take (l.length-1)) none*(NH pn c R*(aM R.pl (bN s f.id f.word w).pl*(aK R.tb R.pl c.nb s.tb*F)))))))))))) (by rw[hg];dsimp only[cF];rw[zz];exact ad) ?_
  refine aL 17 (NH pn c R*(Obj q 80 (cF g Q)*1)) rfl rfl rfl ?_
  repeat(first|refine aq ?_ |refine aY 0 rfl rfl rfl rfl (by decide+kernel) (av) rfl ?_ |refine aY 1 rfl rfl rfl rfl (by decide+kernel) (av) rfl ?_ |refine aY 2 rfl rfl rfl rfl (by decide+kernel) (av) rfl ?_ |refine aY 3 rfl rfl rfl rfl (by decide+kernel) (av) rfl ?_)
  rw[oh,kA]
  refine aI rfl rfl rfl rfl rfl (Spec.aV R.tb (Ps j9 (by omega) bJ.addr bJ.port)) (fun _=>ad) ?_
  intro z
  repeat(first|refine aq ?_ |refine aY 0 rfl rfl rfl rfl (by decide+kernel) (av) rfl ?_ |refine aY 1 rfl rfl rfl rfl (by decide+kernel) (av) rfl ?_ |refine aY 2 rfl rfl rfl rfl (by decide+kernel) (av) rfl ?_ |refine aY 3 rfl rfl rfl rfl (by decide+kernel) (av) rfl ?_)
  (refine my rfl (di rfl rfl rfl rfl rfl rfl) (by decide+kernel) rfl ?_);repeat(first|refine gu rfl rfl rfl (iy rfl rfl) (by decide+kernel) (by decide+kernel) rfl ?_ |refine gu rfl rfl rfl (ix rfl rfl) (by decide+kernel) (by decide+kernel) rfl ?_ |refine mz rfl rfl (di rfl rfl rfl rfl rfl rfl) (by decide+kernel) (by decide+kernel) rfl ?_ |refine eD ?_)
  repeat first|refine aa ?_ |intro
  subst hg
  refine aN (aO rfl () rfl (U.sat (aG.bW {Q with enter:=z} (by rfl) ?_)))
  dsimp only[jh]
  simp only[cy]
  exact ad
set_option maxHeartbeats 2000000 in
theorem R1 (hc:c.Ok)(hp:cK (3*c.np) s.pl)(hk:nV c s k)(h:qU c k f)(e:f.next=11):
  Spec Tryz.prog 50 [.pointer pn,.pointer P.p,.pointer q] W (aG q f*br R.po P k (NH pn c R*(aM R.pl s.pl*(aK R.tb R.pl c.nb s.tb*(aE (bI c R s) 3*F))))) (fun _:Unit=> .tuple #[]) (fun _=>hF q pn c R P F (cC c s k f)):=by
 refine Spec.of Tryz.func50 rfl Tryz.ntmps50 rfl ?_
 have bJ:=h.fin
 have qj:=h.ez
 have bl:=gH f.ar.proto
 have ho:=hk.out _ bl
 have hlen:=h.len
 obtain⟨h0,h1⟩:=h.id (Or.inr e)
 have es:cC c s k f=if fG s f.id f.word (jX f)=true then
   (bN s f.id f.word (jX f),k.bK (aF f.ar.proto) {k.ca (aF f.ar.proto)with l:=(k.ca (aF f.ar.proto)).l.take ((k.ca (aF f.ar.proto)).l.length-1)},
    {f with word:=jX f,made:=true,fY:=f.id.toNat,enter:=some (jh c 1 f.ar f.id 0),next:=12})
  else(s,k,{f with next:=9}):=by unfold cC;rw[if_neg (by omega),if_neg (by omega),if_neg (by omega),if_neg (by omega),if_neg (by omega)];rfl
 rw[es]
 clear es
 have wG:=fun G=>Wb (W:=W) (pn:=pn) (pc:=P.c (aF f.ar.proto)) (pw:=P.p) (q:=q) (f:=f) (c:=c) (R:=R) (s:=s) (po:=R.po (aF f.ar.proto)) (h:=(k.ca (aF f.ar.proto)).h) (l:=(k.ca (aF f.ar.proto)).l) (F:=G) hc hp bJ h0 h1 h.word (by omega)
 refine aG.open fun Q=> ?_
 simp only[cr,br]
 repeat first|refine aa ?_ |intro
 refine ag rfl (Spec.fE q P.p (rq (Q:=Q) (k:=k) (P:=P) h.ez)) ?_
 intro _
 rw[lM (k:=k) bl ho]
 generalize I5:aF f.ar.proto=kd at*
 repeat first|refine aa ?_ |intro
 refine ag rfl (Spec.pre (wG (Obj P.p 88 (cR P k)*(aE (df (eG R.po P k) kd) 3*(dR P.wh k.bp*(fU iq gy P.m k.cm*(ao 5 1 P.told.1 k.cj.length P.told.2 (aA k.cj)*(ao 287 2 P.ended.1 k.ended.length P.ended.2 (mb k.ended)*(aE (bI c R s) 3*F)))))))) (aG.bW Q (by rfl) (ad))) ?_
 intro _
 repeat first|refine aa ?_ |intro
 refine aN (aO rfl () rfl (U.sat ?_))
 cases jM:fG s f.id f.word (jX f)with
 |false=>
  have ep:bN s f.id f.word (jX f)=s:=by unfold bN;rw[jM];rfl
  rw[if_neg Bool.false_ne_true,if_neg Bool.false_ne_true,if_neg Bool.false_ne_true,ep]
  simp only[hF,br]
  rw[lM (k:=k) bl ho]
  exact ad
 |true=>
  rw[if_pos rfl,if_pos rfl,if_pos rfl]
  have oa:(bN s f.id f.word (jX f)).tb=s.tb:=by unfold bN;split<;>rfl
  have j7:aE (bI c R (bN s f.id f.word (jX f))) 3=aE (bI c R s) 3:=by unfold bN;split<;>rfl
  obtain⟨h1,h2,h3,h4,h5,h6,h7,h8⟩:=nO k kd {k.ca kd with l:=(k.ca kd).l.take ((k.ca kd).l.length-1)}
  simp only[hF,br,cR,h1,h2,h3,h4,h5,h6,h7,h8,oa,j7]
  rw[Cw (k:=k) bl]
  simp only[ho,ln,ia]
  exact ad
end
end Go.Proofs.YtakbmjoijcpdmaaGreatDoor
