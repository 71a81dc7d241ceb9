/-
  A part of a proof, joined by a program (wip/bundle3.py).
-/
import Derived.Test.YtfkngchldmfpfaaGreatDoorG3
import Derived.Test.YtfkngchldmfpfaaGreatDoorG7
import Derived.Test.YtfkngchldmfpfaaGreatDoorG13
import Derived.Test.YtfkngchldmfpfaaGreatDoorG15
import Derived.Test.YtfkngchldmfpfaaGreatDoorG18
set_option linter.unusedVariables false
set_option linter.unusedSimpArgs false
namespace Go.Proofs.YtfkngchldmfpfaaGreatDoor
section
open Go.RowKit
set_option maxRecDepth 10000
attribute [local irreducible] EK EX ER EN EL ES EG an aR aU
variable {W:World} {F G:SL} {X:Cx} {kk:List KI} {σ:Env} {pn:Option Addr} {c:NC} {R:dV} {n:cH} {w id:Nat} {p pp:Option Addr} {ws:List Nat} {m:Nat}
attribute [local simp] qF
theorem PC (hm:ws.length≤65536):Spec Tryz.prog 34 [.pointer p] W (aG p ws*F) (fun q:az=> .slice q.1 ws.length q.2) (fun q=>ad 61 1 q.1 ws.length q.2 (ba .u64 ws)*(aG p ws*F)):=by
 refine Spec.of Tryz.func34 rfl Tryz.ntmps34 rfl ?_
 refine aG.open fun g=> ?_
 simp only[jh]
 refine aa ?_;intros
 refine af rfl (Spec.aL g (zx g ws hm)) ?_
 intro q
 refine aa ?_;intros
 exact ae (aj rfl rfl q rfl (U.sat (U.cons (U.trans (ag) (aG.shut (g:=g))))))
theorem PF (hm:ws.length≤65536):Spec Tryz.prog 36 [.pointer p] W (bC p m ws*F) (fun q:az=> .slice q.1 ws.length q.2) (fun q=>ad 61 1 q.1 ws.length q.2 (ba .u64 ws)*(bC p m ws*F)):=by
 refine Spec.of Tryz.func36 rfl Tryz.ntmps36 rfl ?_
 refine bC.open fun g=> ?_
 refine aa ?_;intros
 refine af rfl (Spec.aL g (zx g ws hm)) ?_
 intro q
 refine aa ?_;intros
 exact ae (aj rfl rfl q rfl (U.sat (U.cons (U.trans (ag) (bC.shut (c:=g))))))
theorem NX {gs:List (List (Nat×Nat))}(hm:ws.length≤65536):Spec Tryz.prog 37 [.pointer p] W (bB p ws gs*F) (fun q:az=> .slice q.1 ws.length q.2) (fun q=>ad 61 1 q.1 ws.length q.2 (ba .u64 ws)*(bB p ws gs*F)):=by
 refine Spec.of Tryz.func37 rfl Tryz.ntmps37 rfl ?_
 refine bB.open fun e=> ?_
 simp only[kN]
 refine aa ?_;intros
 refine af rfl (Spec.aL e.c (zx e.c ws hm)) ?_
 intro q
 refine aa ?_;intros
 exact ae (aj rfl rfl q rfl (U.sat (U.cons (U.trans (by simp only[kN];exact ag) (bB.shut e)))))
theorem PZ (hm:ws.length≤65536):Spec Tryz.prog 35 [.pointer p] W (aB p pp m ws*F) (fun q:az=> .slice q.1 ws.length q.2) (fun q=>ad 61 1 q.1 ws.length q.2 (ba .u64 ws)*(aB p pp m ws*F)):=by
 refine Spec.of Tryz.func35 rfl Tryz.ntmps35 rfl ?_
 refine aB.open fun g=> ?_
 refine aa ?_;intros
 refine af rfl (Spec.aL g (zx g ws hm)) ?_
 intro q
 refine aa ?_;intros
 exact ae (aj rfl rfl q rfl (U.sat (U.cons (U.trans (ag) (aB.shut (g:=g))))))
def ir (s:aW):List Nat:=s.pl++s.tb++s.po 0++s.po 1++s.po 2++s.ep
def kE (s:aW):Nat→List Nat
 |0=>s.pl++s.tb
 |i+1=>kE s i++s.po i
theorem Nk (h0:n.sh.pl.length≤10000)(h1:n.sh.tb.length≤10000)(h2:∀i,i<3→(n.sh.po i).length≤10000)(h3:n.sh.ep.length≤10000):Spec Tryz.prog 11 [.pointer pn] W (NH pn c R*bJ c R n.sh F) (fun q:az=> .slice q.1 (ir n.sh).length q.2) (fun q=>ad 61 1 q.1 (ir n.sh).length q.2 (ba .u64 (ir n.sh))*(NH pn c R*bJ c R n.sh F)):=by
 refine Spec.of Tryz.func11 rfl Tryz.ntmps11 rfl ?_
 have I8:=h2 0 (by decide)
 have I9:=h2 1 (by decide)
 have AA:=h2 2 (by decide)
 simp only[bJ]
 refine aa ?_;intros
 refine ay 99 (NH pn c R*1) rfl rfl rfl ?_
 refine ah ?_
 refine aw rfl rfl rfl rfl rfl (Spec.aL R.pl (PC (by omega))) (fun _=>ag) ?_
 intro q0
 refine ah ?_
 refine aw rfl rfl rfl rfl rfl (Spec.aL R.tb (PZ (by omega))) (fun _=>ag) ?_
 intro q1
 refine bD ?_;intros
 refine aa ?_;intros
 rename_i z
 rw[show n.sh.pl.length+n.sh.tb.length=(kE n.sh 0).length by simp[kE],show ba .u64 n.sh.pl++ba .u64 n.sh.tb=ba .u64 (kE n.sh 0)by simp[kE,ba]]
 have Ux:∀i,i≤3→(kE n.sh i).length≤60000:=fun i hi=>by
  have e0:(kE n.sh 0).length=n.sh.pl.length+n.sh.tb.length:=by simp[kE]
  obtain rfl|rfl|rfl|rfl:i=0∨i=1∨i=2∨i=3:=by omega
  all_goals simp only[kE,List.length_append];omega
 refine fy (γ:=Nat×az) (fun g=>g.1≤3) (fun g=>[(0,.pointer pn),(3,.slice g.2.1 (kE n.sh g.1).length g.2.2),(22,.agg #[.pointer (R.po 0),.pointer (R.po 1),.pointer (R.po 2)]),(23,.int .i64 (g.1:Int))])
  (fun g=>ad 61 1 g.2.1 (kE n.sh g.1).length g.2.2 (ba .u64 (kE n.sh g.1))*(NH pn c R*bJ c R n.sh F)) (fun g=>3-g.1) (0,z) (Nat.zero_le _) ⟨rfl,rfl,rfl,rfl,trivial⟩ (U.sat (by simp only[bJ];exact ag)) ?_
 intro ⟨i,q⟩ uj;dsimp only at uj ⊢
 have hui:=Ux i uj
 simp only[bJ]
 by_cases hi:i<3
 ·haveI A1:hU [.pointer (R.po 0),.pointer (R.po 1),.pointer (R.po 2)] i 1 0 (.pointer (R.po i)) (i<3):=⟨fun h=>by
   obtain rfl|rfl|rfl:i=0∨i=1∨i=2:=by omega
   all_goals rfl⟩
  have h2i:=h2 i hi
  rw[ao.at 3 hi,SL.bP]
  have gE:bb c R n.sh i=bC (R.po i) c.np (n.sh.po i):=rfl
  have J7:kE n.sh (i+1)=kE n.sh i++n.sh.po i:=rfl
  rw[gE]
  generalize kE n.sh i=L at*
  refine aa ?_;intros
  refine af rfl (Spec.aL (R.po i) (PF (by omega))) ?_
  intro q2
  refine aa ?_;intros
  rename_i q3
  refine cJ (i+1,q3) (by dsimp only;omega) (by dsimp only;omega) ?_ (U.sat ?_)
  ·dsimp only;rw[J7];exact⟨rfl,by rw[List.length_append];rfl,rfl,rfl,trivial⟩
  ·dsimp only
   rw[J7,←gE,show ba .u64 (L++n.sh.po i)=ba .u64 L++ba .u64 (n.sh.po i)by simp[ba],List.length_append]
   rw[ao.at 3 hi,SL.bP]
   exact ag
 ·have e:i=3:=by omega
  subst e
  refine aa ?_;intros
  refine af rfl (Spec.aL R.ep (NX (by omega))) ?_
  intro q2
  refine aa ?_;intros
  rename_i q3
  have Tt:ir n.sh=kE n.sh 3++n.sh.ep:=rfl
  rw[Tt,List.length_append]
  refine ae (aj rfl rfl q3 rfl (U.sat ?_))
  rw[show ba .u64 (kE n.sh 3++n.sh.ep)=ba .u64 (kE n.sh 3)++ba .u64 n.sh.ep by simp[ba]]
  exact ag
end
section
def jd (e:Nat)(l:List UInt8):Prop:=(e=0↔0<l.length)∧l.length≤1000000
theorem jd.none {e:Nat}(h:e≠0):jd e []:=⟨⟨fun q=>absurd q h,fun q=>absurd q (Nat.lt_irrefl _)⟩,Nat.zero_le _⟩
theorem FX (l:List UInt8)(a b c:Nat):(om l a b c).length=l.length:=by simp[om,dB]
theorem Md (l:List UInt8)(a b:Nat)(s:Bool)(c d e:Nat):(ma l a b s c d e).length=l.length:=by
 unfold ma
 split
 ·simp[sM,dB]
 ·unfold o7 ua
  split
  ·rw[dB]
  ·rw[dB,dB]
theorem YQ (h:fL)(p:iq)(l:List UInt8)(out:Bool)(addr port:Nat):(BS h p l out addr port).length=(l.take h.len).length:=by
 unfold BS
 dsimp only
 split
 ·rw[dB,dB,Md,FX,FX]
 ·rw[Md,FX]
theorem FQ (l:List UInt8)(hl:l.length≤1000000)(out:Bool)(addr port:Nat):jd (eA l) (kF l out addr port):=by
 unfold kF
 split
 ·rename_i h
  rw[jd,YQ,List.length_take]
  refine⟨⟨fun _=> ?_,fun _=>h⟩,by omega⟩
  have h1:dP false l=0:=by
   unfold eA at h
   split at h
   ·assumption
   ·exact h
  obtain⟨a1,_,a3,a4,_⟩:=yb h1
  omega
 ·rename_i h
  exact jd.none h
def aM.Fit (f:aM):Prop:=f.b.length≤1000000∧(f.made=true→f.iJ<1000000)
def aM.Told (f:aM):Prop:=f.Fit∧(f.next=18∨f.done=true→jd f.oo f.gD)
section
variable {c:NC} {w:Nat} {s:aW} {k:aK} {f:aM}
theorem mE (h:f.next≠18)(hd:f.done=false)(hb:f.Fit):f.Told:=⟨hb,fun q=>by
 rcases q with q|q
 ·exact absurd q h
 ·rw[hd]at q;cases q⟩
theorem wE {b:List UInt8}{e:Nat}(hb:f.Fit)(h:jd e b):(f.fin b e).Told:=⟨hb,fun _=>h⟩
theorem F6 {e:Nat}(hb:f.Fit)(h:e≠0):(f.refuse e).Told:=⟨hb,fun _=>jd.none h⟩
theorem F5 {id:Int}(hb:f.Fit):(f.goes c id).Told:=⟨hb,fun _=>FQ _ hb.1 _ _ _⟩
theorem Cb {id:Int}{x:bH}(hd:f.done=false)(hb:f.Fit):(f.jW id x).Told:=by
 refine mE ?_ hd hb
 show(if x.st=1 then 3 else 4)≠18
 split<;>decide
theorem mD {p:Prop}[Decidable p]{a b:aM}(ha:a.Told)(hb:b.Told):(if p then a else b).Told:=by split<;>assumption
theorem YN (hd:f.done=false)(hb:f.Fit):(pN c w f).Told:=by
 unfold pN
 split
 ·exact F6 hb (by decide)
 split
 ·rename_i h;exact F6 hb h
 split
 ·exact F6 hb (by decide)
 ·exact mE (show(1:Nat)≠18 by decide) hd hb
theorem YM (hd:f.done=false)(hb:f.Fit)(oA:f.next≠18):(gG c s k f).2.Told:=by
 have hn:∀ {g:aM},g.done=f.done∧g.b=f.b∧g.made=f.made∧g.iJ=f.iJ→g.next≠18→g.Told:=fun e q=>mE q (e.1.trans hd) (by unfold aM.Fit;rw[e.2.1,e.2.2.1,e.2.2.2];exact hb)
 unfold gG
 split
 ·split
  ·refine mD (hn ⟨rfl,rfl,rfl,rfl⟩ (by assumption)) ?_
   unfold vE
   split
   ·exact Cb hd hb
   split
   ·exact hn ⟨rfl,rfl,rfl,rfl⟩ (show(6:Nat)≠18 by decide)
   ·exact wE hb (jd.none (by decide))
  ·exact mE oA hd hb
 split
 ·exact hn ⟨rfl,rfl,rfl,rfl⟩ (show(4:Nat)≠18 by decide)
 split
 ·unfold wH
  repeat' split
  ·exact hn ⟨rfl,rfl,rfl,rfl⟩ (show(2:Nat)≠18 by decide)
  ·exact Cb hd hb
  ·exact F5 hb
  ·exact hn ⟨rfl,rfl,rfl,rfl⟩ (show(5:Nat)≠18 by decide)
 ·exact mD (F5 hb) (hn ⟨rfl,rfl,rfl,rfl⟩ (show(4:Nat)≠18 by decide))
theorem YK (hd:f.done=false)(hb:f.Fit)(oA:f.next≠18)(h6:6≤f.next)(hid:11≤f.next→f.id.toNat<1000000):(cM c s k f).2.2.Told:=by
 have hn:∀ {g:aM},g.done=f.done∧g.b=f.b∧g.made=f.made∧g.iJ=f.iJ→g.next≠18→g.Told:=fun e q=>mE q (e.1.trans hd) (by unfold aM.Fit;rw[e.2.1,e.2.2.1,e.2.2.2];exact hb)
 unfold cM
 split
 ·split
  ·refine mD (hn ⟨rfl,rfl,rfl,rfl⟩ oA) (mD (hn ⟨rfl,rfl,rfl,rfl⟩ (show(7:Nat)≠18 by decide)) (hn ⟨rfl,rfl,rfl,rfl⟩ (show(9:Nat)≠18 by decide)))
  ·exact mE oA hd hb
 split
 ·split
  ·exact mD (hn ⟨rfl,rfl,rfl,rfl⟩ oA) (mD (Cb hd hb) (hn ⟨rfl,rfl,rfl,rfl⟩ (show(8:Nat)≠18 by decide)))
  ·exact mE oA hd hb
 split
 ·split
  ·exact mD (hn ⟨rfl,rfl,rfl,rfl⟩ oA) (mD (wE hb (jd.none (by decide))) (hn ⟨rfl,rfl,rfl,rfl⟩ (show(6:Nat)≠18 by decide)))
  ·exact mE oA hd hb
 split
 ·exact hn ⟨rfl,rfl,rfl,rfl⟩ (show(10:Nat)≠18 by decide)
 split
 ·exact hn ⟨rfl,rfl,rfl,rfl⟩ (show(11:Nat)≠18 by decide)
 ·dsimp only
  split
  ·exact mE (show(12:Nat)≠18 by decide) hd ⟨hb.1,fun _=>hid (by omega)⟩
  ·exact hn ⟨rfl,rfl,rfl,rfl⟩ (show(9:Nat)≠18 by decide)
theorem YJ (hd:f.done=false)(hb:f.Fit)(oA:f.next≠18):(fQ c s k f).2.2.Told:=by
 have hn:∀ {g:aM},g.done=f.done∧g.b=f.b∧g.made=f.made∧g.iJ=f.iJ→g.next≠18→g.Told:=fun e q=>mE q (e.1.trans hd) (by unfold aM.Fit;rw[e.2.1,e.2.2.1,e.2.2.2];exact hb)
 unfold fQ
 split
 ·split
  ·refine mD (hn ⟨rfl,rfl,rfl,rfl⟩ oA) (hn ⟨rfl,rfl,rfl,rfl⟩ ?_)
   dsimp only
   split<;>decide
  ·exact mE oA hd hb
 split
 ·exact F5 hb
 ·split
  ·exact mD (Cb hd ⟨hb.1,fun q=>(by cases q)⟩) (wE ⟨hb.1,fun q=>(by cases q)⟩ (jd.none (by decide)))
  ·exact mE oA hd hb
theorem YL (hd:f.done=false)(hb:f.Fit):(gW c s f).2.Told:=by
 have hn:∀ {g:aM},g.done=f.done∧g.b=f.b∧g.made=f.made∧g.iJ=f.iJ→g.next≠18→g.Told:=fun e q=>mE q (e.1.trans hd) (by unfold aM.Fit;rw[e.2.1,e.2.2.1,e.2.2.2];exact hb)
 unfold gW
 split
 ·exact mD (wE hb (jd.none (by decide))) (hn ⟨rfl,rfl,rfl,rfl⟩ (show(16:Nat)≠18 by decide))
 split
 ·exact hn ⟨rfl,rfl,rfl,rfl⟩ (show(17:Nat)≠18 by decide)
 split
 ·exact mD (wE hb (FQ _ hb.1 _ _ _)) (hn ⟨rfl,rfl,rfl,rfl⟩ (show(15:Nat)≠18 by decide))
 ·exact mD (wE hb (FQ _ hb.1 _ _ _)) (hn ⟨rfl,rfl,rfl,rfl⟩ (show(15:Nat)≠18 by decide))
theorem YO (hd:f.done=false)(hle:f.next≤18)(h:f.Told)(hid:10≤f.next→f.next≤17→f.id.toNat<1000000):(c7 c w s k f).2.2.Told:=by
 have hb:=h.1
 have hn:∀ {g:aM},g.done=f.done∧g.b=f.b∧g.made=f.made∧g.iJ=f.iJ→g.next≠18→g.Told:=fun e q=>mE q (e.1.trans hd) (by unfold aM.Fit;rw[e.2.1,e.2.2.1,e.2.2.2];exact hb)
 unfold c7
 split
 ·exact YN hd hb
 split
 ·rename_i e
  split
  ·refine mD (hn ⟨rfl,rfl,rfl,rfl⟩ ?_) (mD (hn ⟨rfl,rfl,rfl,rfl⟩ (show(2:Nat)≠18 by decide)) (hn ⟨rfl,rfl,rfl,rfl⟩ (show(15:Nat)≠18 by decide)))
   show f.next≠18
   omega
  ·exact h
 split
 ·exact YM hd hb (by omega)
 split
 ·exact YK hd hb (by omega) (by omega) (fun q=>hid (by omega) (by omega))
 split
 ·exact YJ hd hb (by omega)
 split
 ·exact YL hd hb
 ·exact⟨hb,fun _=>h.2 (.inl (by omega))⟩
end
end
section
structure kj (k k':aK):Prop where
 frame:k'.frame=k.frame
 aC:k'.aC=k.aC
 bt:k'.bt=k.bt
 fh:k'.fh=k.fh
 any:k'.any=k.any
theorem kj.refl {k:aK}:kj k k:=⟨rfl,rfl,rfl,rfl,rfl⟩
theorem BT {k:aK}{i:Nat}{a:dH}:kj k (k.cK i a)∧(k.cK i a).ended=k.ended:=by
 unfold aK.cK
 split
 ·exact⟨⟨rfl,rfl,rfl,rfl,rfl⟩,rfl⟩
 ·split<;>exact⟨⟨rfl,rfl,rfl,rfl,rfl⟩,rfl⟩
theorem LU {k:aK}{p:Nat}{i:Int}{v:bH}{t:Int}:kj k (fN k p i v t)∧(fN k p i v t).ended=k.ended:=by
 unfold fN
 repeat' split
 all_goals exact⟨⟨rfl,rfl,rfl,rfl,rfl⟩,rfl⟩
section
variable {c:NC} {w:Nat} {s:aW} {k:aK} {f:aM} {x:cI}
theorem Yi:kj k (c7 c w s k f).2.1∧(c7 c w s k f).2.1.ended=k.ended:=by
 have ha:∀p i v t,kj k (fN {k with aS:=iL k.aS f.id f.ai} p i v t)∧(fN {k with aS:=iL k.aS f.id f.ai} p i v t).ended=k.ended:=fun p i v t=>by
  obtain⟨q,e⟩:=LU (k:={k with aS:=iL k.aS f.id f.ai}) (p:=p) (i:=i) (v:=v) (t:=t)
  exact⟨⟨q.frame,q.aC,q.bt,q.fh,q.any⟩,e⟩
 unfold c7
 repeat' split
 all_goals first|exact⟨kj.refl,rfl⟩|skip
 ·unfold cM
  repeat' split
  all_goals first|exact⟨kj.refl,rfl⟩|exact BT|(dsimp only;split<;>first|exact⟨kj.refl,rfl⟩|exact BT)
 ·unfold fQ
  repeat' split
  all_goals first|exact⟨kj.refl,rfl⟩|exact BT|exact ha _ _ _ _
theorem Ym:kj k (cg c w s k x).2.1∧k.ended.length≤(cg c w s k x).2.1.ended.length:=by
 have h0:kj k k∧k.ended.length≤k.ended.length:=⟨kj.refl,Nat.le_refl _⟩
 have hs:∀i a,kj k (k.cK i a)∧k.ended.length≤(k.cK i a).ended.length:=fun i a=>by
  obtain⟨q,e⟩:=BT (k:=k) (i:=i) (a:=a)
  exact⟨q,by rw[e];exact Nat.le_refl _⟩
 have ha:∀p i v t,kj k (fN k p i v t)∧k.ended.length≤(fN k p i v t).ended.length:=fun p i v t=>by
  obtain⟨q,e⟩:=LU (k:=k) (p:=p) (i:=i) (v:=v) (t:=t)
  exact⟨q,by rw[e];exact Nat.le_refl _⟩
 have hh:kj k {k with aD:=(fP k.aD x.tick).2}∧k.ended.length≤k.ended.length:=⟨⟨rfl,rfl,rfl,rfl,rfl⟩,Nat.le_refl _⟩
 have hd:∀i,kj k {k with aS:=qh k.aS i}∧k.ended.length≤k.ended.length:=fun i=>⟨⟨rfl,rfl,rfl,rfl,rfl⟩,Nat.le_refl _⟩
 have he:∀e,kj k {k with ended:=k.ended++[e]}∧k.ended.length≤(k.ended++[e]).length:=fun e=>⟨⟨rfl,rfl,rfl,rfl,rfl⟩,by simp⟩
 unfold cg
 split
 ·exact hh
 split
 ·unfold ie
  dsimp only
  repeat' split
  all_goals first|exact h0|exact ha _ _ _ _|exact he _|exact hd _
 repeat' split
 all_goals first|exact h0|skip
 unfold dO
 dsimp only
 repeat' split
 all_goals first|exact h0|exact hs _ _
end
def xm (c:NC)(n:cH):Prop:=∀v,v<c.n→(∀f,(n.wk.getD v al).frame=some f→f.Told)∧((n.wk.getD v al).any=true→jd (n.wk.getD v al).fh (n.wk.getD v al).bt)
theorem sg {l:List aK}{w v:Nat}{k:aK}(h:v≠w):(l.set w k).getD v al=l.getD v al:=by
 rw[List.getD_eq_getElem?_getD,List.getElem?_set_ne (by omega),←List.getD_eq_getElem?_getD]
theorem lP {l:List aK}{w:Nat}{k:aK}(h:w<l.length):(l.set w k).getD w al=k:=by
 rw[List.getD_eq_getElem?_getD,List.getElem?_set_self h];rfl
section
variable {c:NC} {w:Nat} {n:cH} {f:aM} {x:cI}
theorem YG (h:xm c n)(hl:n.wk.length=c.n)(hw:w<c.n)(hf:(n.wk.getD w al).frame=some f)(hd:f.done=false)(hle:f.next≤18)(hid:10≤f.next→f.next≤17→f.id.toNat<1000000)(hs:(n.wk.getD w al).aC=none):
  xm c (bX c w n).1∧(bX c w n).2=(((bX c w n).1.wk.getD w al).frame).isNone∧((bX c w n).1.wk.getD w al).aC=none∧(((bX c w n).1.wk.getD w al).frame=none→((bX c w n).1.wk.getD w al).any=true)∧(∀v,v≠w→(bX c w n).1.wk.getD v al=n.wk.getD v al):=by
 have ft:w<n.wk.length:=by omega
 have ht:=YO (c:=c) (w:=w) (s:=n.sh) (k:=n.wk.getD w al) hd hle ((h w hw).1 f hf) hid
 obtain⟨q,_⟩:=Yi (c:=c) (w:=w) (s:=n.sh) (k:=n.wk.getD w al) (f:=f)
 unfold bX
 rw[if_neg (by omega),hf]
 dsimp only
 generalize c7 c w n.sh (n.wk.getD w al) f=r at*
 obtain⟨s',k',f'⟩:=r
 dsimp only at ht q ⊢
 rw[lP ft]
 refine⟨fun v hv=> ?_,?_,?_,?_,fun v hv=>sg hv⟩
 ·by_cases e:v=w
  ·subst e
   show(∀g,((n.wk.set v _).getD v al).frame=some g→_)∧(((n.wk.set v _).getD v al).any=true→jd ((n.wk.set v _).getD v al).fh ((n.wk.set v _).getD v al).bt)
   rw[lP ft]
   split
   ·rename_i Jo
    exact⟨fun g e=>(by cases e),fun _=>ht.2 (.inr Jo)⟩
   ·refine⟨fun g e=> ?_,fun ha=> ?_⟩
    ·injection e with e
     subst e;exact ht
    ·have ha:k'.any=true:=ha
     rw[q.any]at ha
     show jd k'.fh k'.bt
     rw[q.fh,q.bt]
     exact(h v hv).2 ha
  ·show(∀g,((n.wk.set w _).getD v al).frame=some g→_)∧(((n.wk.set w _).getD v al).any=true→jd ((n.wk.set w _).getD v al).fh ((n.wk.set w _).getD v al).bt)
   rw[sg e]
   exact h v hv
 ·have hk:k'.aC=none:=q.aC.trans hs
  split
  ·show(!(aK.busy _))=true
   unfold aK.busy
   dsimp only
   rw[hk];rfl
  ·rfl
 ·have hk:k'.aC=none:=q.aC.trans hs
  split<;>exact hk
 ·split
  ·exact fun _=>rfl
  ·intro e;cases e
theorem YH (h:xm c n)(hl:n.wk.length=c.n)(hw:w<c.n)(hf:(n.wk.getD w al).frame=none)(hx:(n.wk.getD w al).aC=some x):
  xm c (bX c w n).1∧(bX c w n).2=(((bX c w n).1.wk.getD w al).aC).isNone∧((bX c w n).1.wk.getD w al).frame=none∧(n.wk.getD w al).ended.length≤((bX c w n).1.wk.getD w al).ended.length∧(∀v,v≠w→(bX c w n).1.wk.getD v al=n.wk.getD v al):=by
 have ft:w<n.wk.length:=by omega
 obtain⟨q,qe⟩:=Ym (c:=c) (w:=w) (s:=n.sh) (k:=n.wk.getD w al) (x:=x)
 unfold bX
 rw[if_neg (by omega),hf]
 dsimp only
 rw[hx]
 dsimp only
 generalize cg c w n.sh (n.wk.getD w al) x=r at*
 obtain⟨s',k',x'⟩:=r
 dsimp only at q qe ⊢
 rw[lP ft]
 have hk:k'.frame=none:=q.frame.trans hf
 refine⟨fun v hv=> ?_,?_,?_,?_,fun v hv=>sg hv⟩
 ·by_cases e:v=w
  ·subst e
   show(∀g,((n.wk.set v _).getD v al).frame=some g→_)∧(((n.wk.set v _).getD v al).any=true→jd ((n.wk.set v _).getD v al).fh ((n.wk.set v _).getD v al).bt)
   rw[lP ft]
   have hA:k'.any=true→jd k'.fh k'.bt:=fun ha=>by
    rw[q.any]at ha
    rw[q.fh,q.bt]
    exact(h v hv).2 ha
   split
   ·exact⟨fun g e=>(by have e:k'.frame=some g:=e;rw[hk]at e;cases e),hA⟩
   ·exact⟨fun g e=>(by have e:k'.frame=some g:=e;rw[hk]at e;cases e),hA⟩
  ·show(∀g,((n.wk.set w _).getD v al).frame=some g→_)∧(((n.wk.set w _).getD v al).any=true→jd ((n.wk.set w _).getD v al).fh ((n.wk.set w _).getD v al).bt)
   rw[sg e]
   exact h v hv
 ·split
  ·show(!(aK.busy _))=true
   unfold aK.busy
   dsimp only
   rw[hk];rfl
  ·show(!(aK.busy _))=false
   unfold aK.busy
   dsimp only
   rw[hk];rfl
 ·split<;>exact hk
 ·split<;>exact qe
end
end
section
theorem pe {l:List Int}{w v:Nat}{x d:Int}(h:w<l.length):(l.set w x).getD v d=if v=w then x else l.getD v d:=by
 rw[List.getD_eq_getElem?_getD,List.getElem?_set]
 by_cases e:v=w
 ·subst e
  rw[if_pos rfl,if_pos rfl,if_pos h];rfl
 ·rw[if_neg (fun q=>e q.symm),if_neg e,←List.getD_eq_getElem?_getD]
structure BW (c:NC)(n:cH)(dl el:List Int)(ev:Nat):Prop where
 wl:n.wk.length=c.n
 d:dl.length=c.n
 e:el.length=c.n
 tA:xm c n
 dr:∀v,v<c.n→ -1≤dl.getD v 0∧dl.getD v 0<ev
 fr:∀v,v<c.n→(0≤dl.getD v 0↔(n.wk.getD v al).frame.isSome=true)
 one:∀v,v<c.n→(n.wk.getD v al).frame.isSome=true→(n.wk.getD v al).aC=none
 en:∀v,v<c.n→(n.wk.getD v al).aC.isSome=true→0≤el.getD v 0∧el.getD v 0≤(n.wk.getD v al).ended.length
section
variable {c:NC} {w:Nat} {n:cH} {f:aM} {x:cI} {dl el:List Int} {ev:Nat}
theorem BW.new (hn:∀v,v<c.n→(fw c).wk.getD v al=ln v):BW c (fw c) (List.replicate c.n (-1)) (List.replicate c.n 0) 0 where
 wl:=by simp[fw]
 d:=List.length_replicate
 e:=List.length_replicate
 tA:=fun v hv=>by rw[hn v hv];exact⟨fun f h=>(by cases h),fun h=>(by cases h)⟩
 dr:=fun v hv=>by
  rw[List.getD_eq_getElem?_getD,List.getElem?_replicate,if_pos hv]
  exact⟨Int.le_refl _,by show(-1:Int)<0;decide⟩
 fr:=fun v hv=>by
  rw[hn v hv,List.getD_eq_getElem?_getD,List.getElem?_replicate,if_pos hv]
  exact⟨fun h=>absurd h (by show ¬(0:Int)≤ -1;decide),fun h=>(by cases h)⟩
 one:=fun v hv h=>by rw[hn v hv];rfl
 en:=fun v hv h=>by rw[hn v hv]at h;cases h
theorem BW.begin (h:BW c n dl el ev)(hw:w<c.n)(h1:(n.wk.getD w al).frame=none)(h2:(n.wk.getD w al).aC=none)(out:Bool){b:List UInt8}(hb:b.length≤1000000)(tick:Int):
  BW c ⟨n.sh,n.wk.set w {(n.wk.getD w al)with frame:=some (oy out b tick)}⟩ (dl.set w ev) el (ev+1):=by
 have ft:w<n.wk.length:=by rw[h.wl];exact hw
 have iW:w<dl.length:=by rw[h.d];exact hw
 have ht:∀v,v<c.n→v=w∨(n.wk.set w {(n.wk.getD w al)with frame:=some (oy out b tick)}).getD v al=n.wk.getD v al:=fun v _=>by
  by_cases e:v=w
  ·exact .inl e
  ·exact .inr (sg e)
 refine⟨by dsimp only;rw[List.length_set];exact h.wl,by rw[List.length_set];exact h.d,h.e,fun v hv=> ?_,fun v hv=> ?_,fun v hv=> ?_,fun v hv=> ?_,fun v hv=> ?_⟩
 ·dsimp only
  rcases ht v hv with rfl|e
  ·rw[lP ft]
   refine⟨fun f e=> ?_,(h.tA v hv).2⟩
   injection e with e
   subst e
   exact mE (show(0:Nat)≠18 by decide) rfl ⟨hb,fun q=>(by cases q)⟩
  ·rw[e];exact h.tA v hv
 ·rw[pe iW]
  have:=h.dr v hv
  split<;>omega
 ·dsimp only
  rw[pe iW]
  rcases ht v hv with rfl|e
  ·rw[lP ft,if_pos rfl]
   exact⟨fun _=>rfl,fun _=>by omega⟩
  ·rw[e]
   by_cases q:v=w
   ·subst q
    rw[lP ft]at e
    rw[if_pos rfl,←e]
    exact⟨fun _=>rfl,fun _=>by omega⟩
   ·rw[if_neg q];exact h.fr v hv
 ·dsimp only
  rcases ht v hv with rfl|e
  ·rw[lP ft];exact fun _=>h2
  ·rw[e];exact h.one v hv
 ·dsimp only
  rcases ht v hv with rfl|e
  ·rw[lP ft]
   intro q
   have q:(n.wk.getD v al).aC.isSome=true:=q
   rw[h2]at q;cases q
  ·rw[e];exact h.en v hv
theorem BW.aC (h:BW c n dl el ev)(hw:w<c.n)(h1:(n.wk.getD w al).frame=none)(tick:Int):
  BW c ⟨n.sh,n.wk.set w {(n.wk.getD w al)with aC:=some (lM tick),ended:=[]}⟩ dl (el.set w 0) ev:=by
 have ft:w<n.wk.length:=by rw[h.wl];exact hw
 have ku:w<el.length:=by rw[h.e];exact hw
 refine⟨by dsimp only;rw[List.length_set];exact h.wl,h.d,by rw[List.length_set];exact h.e,fun v hv=> ?_,h.dr,fun v hv=> ?_,fun v hv=> ?_,fun v hv=> ?_⟩
 all_goals
  dsimp only
  by_cases q:v=w
 ·subst q
  rw[lP ft]
  exact h.tA v hv
 ·rw[sg q];exact h.tA v hv
 ·subst q
  rw[lP ft]
  exact h.fr v hv
 ·rw[sg q];exact h.fr v hv
 ·subst q
  rw[lP ft]
  intro z
  have z:(n.wk.getD v al).frame.isSome=true:=z
  rw[h1]at z;cases z
 ·rw[sg q];exact h.one v hv
 ·subst q
  rw[lP ft,pe ku,if_pos rfl]
  exact fun _=>⟨Int.le_refl _,Int.le_refl _⟩
 ·rw[sg q,pe ku,if_neg q];exact h.en v hv
theorem BW.frame (h:BW c n dl el ev)(hw:w<c.n)(hf:(n.wk.getD w al).frame=some f)(hd:f.done=false)(hle:f.next≤18)(hid:10≤f.next→f.next≤17→f.id.toNat<1000000):
  (bX c w n).2=(((bX c w n).1.wk.getD w al).frame).isNone∧((bX c w n).1.wk.getD w al).aC=none∧((bX c w n).2=false→BW c (bX c w n).1 dl el ev)∧
  ((bX c w n).2=true→((bX c w n).1.wk.getD w al).any=true∧jd ((bX c w n).1.wk.getD w al).fh ((bX c w n).1.wk.getD w al).bt∧BW c (bX c w n).1 (dl.set w (-1)) el ev):=by
 have hs:=h.one w hw (by rw[hf];rfl)
 have iW:w<dl.length:=by rw[h.d];exact hw
 obtain⟨t1,t2,t3,t4,t5⟩:=YG h.tA h.wl hw hf hd hle hid hs
 have Bd:(bX c w n).1.wk.length=c.n:=by
  unfold bX
  rw[if_neg (by rw[h.wl];omega),hf]
  exact List.length_set.trans h.wl
 generalize bX c w n=r at*
 obtain⟨n',b⟩:=r
 dsimp only at*
 have AJ:∀v,v<c.n→(n'.wk.getD v al).aC.isSome=true→0≤el.getD v 0∧el.getD v 0≤(n'.wk.getD v al).ended.length:=fun v hv q=>by
  by_cases e:v=w
  ·subst e;rw[t3]at q;cases q
  ·rw[t5 v e]at q ⊢;exact h.en v hv q
 have JQ:∀v,v<c.n→(n'.wk.getD v al).frame.isSome=true→(n'.wk.getD v al).aC=none:=fun v hv q=>by
  by_cases e:v=w
  ·subst e;exact t3
  ·rw[t5 v e]at q ⊢;exact h.one v hv q
 refine⟨t2,t3,fun hb=>⟨Bd,h.d,h.e,t1,h.dr,fun v hv=> ?_,JQ,AJ⟩,fun hb=> ?_⟩
 ·by_cases e:v=w
  ·subst e
   rw[hb]at t2
   refine⟨fun _=> ?_,fun _=>(h.fr v hv).2 (by rw[hf];rfl)⟩
   cases q:(n'.wk.getD v al).frame with
   |none=>rw[q]at t2;cases t2
   |some g=>rfl
  ·rw[t5 v e];exact h.fr v hv
 ·rw[hb]at t2
  have hn:(n'.wk.getD w al).frame=none:=by
   cases q:(n'.wk.getD w al).frame with
   |none=>rfl
   |some g=>rw[q]at t2;cases t2
  refine⟨t4 hn,(t1 w hw).2 (t4 hn),⟨Bd,by rw[List.length_set];exact h.d,h.e,t1,fun v hv=> ?_,fun v hv=> ?_,JQ,AJ⟩⟩
  ·rw[pe iW]
   have:=h.dr v hv
   split<;>omega
  ·rw[pe iW]
   by_cases e:v=w
   ·subst e
    rw[if_pos rfl,hn]
    exact⟨fun q=>absurd q (by decide),fun q=>(by cases q)⟩
   ·rw[if_neg e,t5 v e];exact h.fr v hv
theorem BW.Yn (h:BW c n dl el ev)(hw:w<c.n)(hf:(n.wk.getD w al).frame=none)(hx:(n.wk.getD w al).aC=some x):
  (bX c w n).2=(((bX c w n).1.wk.getD w al).aC).isNone∧((bX c w n).1.wk.getD w al).frame=none∧0≤el.getD w 0∧el.getD w 0≤((bX c w n).1.wk.getD w al).ended.length∧
  ∀Dn,ev≤Dn→BW c (bX c w n).1 dl (el.set w ((bX c w n).1.wk.getD w al).ended.length) Dn:=by
 have ku:w<el.length:=by rw[h.e];exact hw
 obtain⟨e1,e2⟩:=h.en w hw (by rw[hx];rfl)
 obtain⟨t1,t2,t3,t4,t5⟩:=YH h.tA h.wl hw hf hx
 have Bd:(bX c w n).1.wk.length=c.n:=by
  unfold bX
  rw[if_neg (by rw[h.wl];omega),hf]
  dsimp only
  rw[hx]
  exact List.length_set.trans h.wl
 generalize bX c w n=r at*
 obtain⟨n',b⟩:=r
 dsimp only at*
 refine⟨t2,t3,e1,by omega,fun Dn hev=>⟨Bd,h.d,by rw[List.length_set];exact h.e,t1,fun v hv=> ?_,fun v hv=> ?_,fun v hv q=> ?_,fun v hv q=> ?_⟩⟩
 ·have:=h.dr v hv;omega
 ·by_cases e:v=w
  ·subst e
   rw[t3]
   have:=h.fr v hv
   rw[hf]at this
   exact this
  ·rw[t5 v e];exact h.fr v hv
 ·by_cases e:v=w
  ·subst e;rw[t3]at q;cases q
  ·rw[t5 v e]at q ⊢;exact h.one v hv q
 ·rw[pe ku]
  by_cases e:v=w
  ·subst e
   rw[if_pos rfl];omega
  ·rw[if_neg e,t5 v e]
   rw[t5 v e]at q
   exact h.en v hv q
end
end
section
open Go.RowKit
theorem Hz {ps:List (Nat×Nat)}(z y:Nat)(h:y∈fC ps∨y=z):y∈fC (addPart ps z):=by
 unfold addPart
 split
 ·rename_i i hi
  have bY:=Fx hi
  have DW:=Ld hi
  rw[oJ]
  have uM:∀v,v∈ps.set i v:=fun v=>List.mem_iff_getElem.2 ⟨i,by simpa using bY,by simp⟩
  rcases h with h|rfl
  ·obtain⟨x,hx,h1,h2⟩:=oJ.1 h
   obtain⟨j,hj,rfl⟩:=List.getElem_of_mem hx
   by_cases e:i=j
   ·subst e
    refine⟨_,uM _,?_,?_⟩
    ·rw[h1,List.getD_eq_getElem?_getD,List.getElem?_eq_getElem hj];rfl
    ·dsimp only
     rw[Nat.testBit_or,List.getD_eq_getElem?_getD,List.getElem?_eq_getElem hj]
     simp[h2]
   ·exact⟨ps[j],List.mem_iff_getElem.2 ⟨j,by simpa using hj,by rw[List.getElem_set_ne e]⟩,h1,h2⟩
  ·refine⟨_,uM _,DW.symm,?_⟩
   dsimp only
   rw[Nat.testBit_or,Nat.testBit_two_pow_self,Bool.or_true]
 ·rw[oJ]
  rcases h with h|rfl
  ·obtain⟨x,hx,h1,h2⟩:=oJ.1 h
   exact⟨x,List.mem_append_left _ hx,h1,h2⟩
  ·exact⟨_,List.mem_append_right _ (List.mem_singleton.2 rfl),rfl,Nat.testBit_two_pow_self⟩
theorem IT (n:Nat):∀(l:List Int) (ps:List (Nat×Nat)) (y:Nat),(y∈fC ps∨((y:Int)∈l∧y<n))→y∈fC (l.foldl (km n) ps)
 |[],ps,y,h=>h.elim id fun h=>absurd h.1 (by simp)
 |z::l,ps,y,h=>by
  rw[List.foldl_cons]
  refine IT n l _ y ?_
  by_cases hy:(y:Int)∈l∧y<n
  ·exact .inr hy
  ·refine .inl ?_
   unfold km
   rcases h with h|⟨h1,h2⟩
   ·split
    ·exact Hz _ _ (.inl h)
    ·exact h
   ·rcases List.mem_cons.1 h1 with h1|h1
    ·rw[if_pos ⟨by omega,by omega⟩]
     exact Hz _ _ (.inr (by omega))
    ·exact absurd ⟨h1,h2⟩ hy
theorem VX (n:Nat)(l:List Nat)(y:Nat):y∈fC (lX n (l.map fun(x:Nat)=>(x:Int)))↔y∈l∧y<n:=by
 have hm:((y:Int)∈l.map fun(x:Nat)=>(x:Int))↔y∈l:=by
  rw[List.mem_map]
  exact⟨fun⟨a,h1,h2⟩=>by rwa[show y=a by omega],fun h=>⟨y,h,rfl⟩⟩
 constructor
 ·intro h
  obtain⟨h1,h2⟩:=(HL n _).2 y h
  exact⟨hm.1 h1,h2⟩
 ·rintro ⟨h1,h2⟩
  exact IT n _ [] y (.inr ⟨hm.2 h1,h2⟩)
end
section
open Go.RowKit
variable {m n k w x:Nat} {ws o:List Nat} {s:bM}
inductive M9 where
 |idle
 |still
 |fill (s:bM)
 |back (s:bM)
structure Nb where
 home:Nat
 l:List Nat
 run:M9
def one (p:Prop)[Decidable p]:Nat:=if p then 1 else 0
def QZ:Nb:=⟨0,[],.idle⟩
end
section
open Go.RowKit
section
variable {np:Nat} {ws:List Nat} {s:bM}
abbrev mW (np:Nat):Nat:=(np+31)/32
structure oe (np:Nat)(ws:List Nat):Prop where
 words:ic (mW np) ws
 tail:∀x,np≤x→x<mW np*32→kZ ws x=false
theorem oe.new (h1:1≤np)(h2:np≤1024):oe np (eM np):=⟨Wg h1 h2,fun x h3 h4=>(Wf h1).2 h3 h4⟩
structure ra (np:Nat)(s:bM):Prop where
 ok:s.Ok (mW np)
 kind:s.kind=0
 most:s.most≤8
 none:s.done=false→s.bK=[]
 lt:∀g∈s.bK,g<np
 kp:s.bK.length≤8
theorem Yy (ws:List Nat)(s:bM):(kf ws s).2.most=s.most∧(s.bK=[]→(kf ws s).2.bK.length≤s.most):=by
 unfold kf
 repeat' split
 all_goals refine⟨rfl,fun e=> ?_⟩
 ·show((fD s.seen s.most).map (s.word*32+ ·)).length≤_
  unfold fD
  rw[List.length_map,List.length_take]
  omega
 all_goals (show s.bK.length≤_;rw[e];simp)
theorem ra.xG (hp:oe np ws)(h:ra np s)(hd:s.done=false):oe np (bp ws s).1∧ra np (bp ws s).2:=by
 obtain⟨q1,q2⟩:=xF hp.words h.ok
 have xI:=YA hp.words h.ok h.kind hd (h.none hd)
 have e:bp ws s=kf ws s:=by unfold bp;rw[if_neg (by simp[hd]),if_pos h.kind]
 obtain⟨m1,m2⟩:=Yy ws s
 refine⟨⟨q1,fun x h1 h2=> ?_⟩,⟨q2,xI.kind,by rw[e,m1];exact h.most,xI.none,fun g hg=> ?_,?_⟩⟩
 ·have:=(xI.after x)
  cases hf:kZ (bp ws s).1 x with
  |false=>rfl
  |true=>rw[hp.tail x h1 h2]at this;exact absurd (this.1 hf).1 (by decide)
 ·have h1:=xI.free g hg
  have h2:=xI.small g hg
  rw[hp.words.len]at h2
  rcases Nat.lt_or_ge g np with h3|h3
  ·exact h3
  ·rw[hp.tail g h3 h2]at h1;cases h1
 ·have:=m2 (h.none hd)
  have:=h.most
  rw[e];omega
theorem ra.new (h1:1≤np)(hd:Int):ra np (ke hd 8 (mW np)):=
 ⟨Yx hd 8 (by unfold mW;omega),rfl,by show(min (max (8:Int) 1) 32).toNat≤8;decide,fun _=>rfl,fun g hg=>(by cases hg),(by show 0≤8;decide)⟩
structure pP (np:Nat)(s:bM):Prop where
 ok:s.Ok (mW np)
 kind:s.kind=2
 done:s.done=false
 len:s.parts.length≤8
 ne:s.parts≠ []
 nz:∀p∈s.parts,p.2≠0
 lt:∀y∈fC s.parts,y<np
theorem Qp (ws:List Nat)(s:bM):((lY ws s).2.parts=s.parts∧((lY ws s).2.done=s.done∨s.parts=[]))∨(∃p rest,s.parts=p::rest∧(lY ws s).2.parts=rest∧(lY ws s).2.done=decide (rest=[])):=by
 rcases h:s.parts with _|⟨⟨k,mask⟩,rest⟩
 ·rw[xy h];exact .inl ⟨h,.inr rfl⟩
 ·rw[xx h]
  split
  ·split
   ·exact .inr ⟨_,_,rfl,rfl,rfl⟩
   ·exact .inl ⟨h,.inl rfl⟩
  ·split
   ·exact .inr ⟨_,_,rfl,rfl,rfl⟩
   ·exact .inl ⟨h,.inl rfl⟩
theorem Qs (hp:oe np ws)(h:pP np s)(x:Nat)(h1:np≤x)(h2:x<mW np*32):kZ (lY ws s).1 x=false:=by
 have hx:=hp.tail x h1 h2
 have hlen:=hp.words.len
 rcases hh:s.parts with _|⟨⟨k,mask⟩,rest⟩
 ·rw[xy hh];exact hx
 ·rw[xx hh]
  split
  ·split
   ·rename_i e
    obtain⟨hk,hm⟩:=h.ok.parts (k,mask) (by rw[hh];exact List.mem_cons_self)
    dsimp only at hk hm ⊢
    rw[E5 (by rw[hlen];exact hk)]
    split
    ·rename_i vZ
     have mZ:x%32<32:=Nat.mod_lt _ (by decide)
     rw[H7 (Nat.lt_of_le_of_lt Nat.and_le_left (Nat.mod_lt _ (by decide))) mZ,Nat.testBit_and,Kx mZ,KR hm mZ]
     have hb:mask.testBit (x%32)=false:=by
      cases hb:mask.testBit (x%32)with
      |false=>rfl
      |true=>
       have:=h.lt x (oJ.2 ⟨(k,mask),by rw[hh];exact List.mem_cons_self,vZ,hb⟩)
       omega
     have hs:s.seen.testBit (x%32)=true:=by
      rw[←e,←vZ]
      have:kZ ws x=false:=hx
      unfold kZ at this
      simpa using this
     rw[hb,hs];rfl
    ·exact hx
   ·exact hx
  ·split<;>exact hx
theorem pP.xG (hp:oe np ws)(h:pP np s):oe np (bp ws s).1∧((bp ws s).2.done=false→pP np (bp ws s).2):=by
 obtain⟨q1,q2⟩:=xF hp.words h.ok
 have e:bp ws s=lY ws s:=by unfold bp;rw[if_neg (by simp[h.done]),if_neg (by have:=h.kind;omega),if_neg (by have:=h.kind;omega)]
 have nN:(lY ws s).2.kind=2:=by
  rw[←h.kind]
  rcases hh:s.parts with _|⟨⟨k,mask⟩,rest⟩
  ·rw[xy hh]
  ·rw[xx hh]
   repeat' split
   all_goals rfl
 refine⟨⟨q1,fun x h1 h2=>by rw[e];exact Qs hp h x h1 h2⟩,fun hd=> ?_⟩
 rw[e]at hd q2 ⊢
 rcases Qp ws s with ⟨p1,p2⟩|⟨p,rest,p1,p2,p3⟩
 ·exact⟨q2,nN,hd,by rw[p1];exact h.len,by rw[p1];exact h.ne,by rw[p1];exact h.nz,by rw[p1];exact h.lt⟩
 ·refine⟨q2,nN,hd,?_,?_,fun y hy=> ?_,fun y hy=> ?_⟩
  ·have:=h.len;rw[p1]at this;rw[p2];simp only[List.length_cons]at this;omega
  ·rw[p2];rw[p3]at hd;exact of_decide_eq_false hd
  ·rw[p2]at hy;exact h.nz y (by rw[p1];exact List.mem_cons_of_mem _ hy)
  ·rw[p2]at hy
   obtain⟨z,z1,z2⟩:=oJ.1 hy
   exact h.lt y (oJ.2 ⟨z,by rw[p1];exact List.mem_cons_of_mem _ z1,z2⟩)
theorem pP.new {l:List Nat}(cU:np≤1024)(hl:∀x∈l,x<np)(h0:l≠ [])(h8:l.length≤8):pP np (kU np (l.map fun y:Nat=>(y:Int))):=by
 obtain⟨p1,p2⟩:=HL np (l.map fun y:Nat=>(y:Int))
 refine⟨Qn (by unfold mW;omega) _,rfl,rfl,?_,?_,p1.ne,fun y hy=>(p2 y hy).2⟩
 ·have:=HK np (l.map fun y:Nat=>(y:Int))
  rw[List.length_map]at this
  show(lX _ _).length≤8
  omega
 ·intro e
  obtain⟨x,hx⟩:=List.exists_mem_of_ne_nil l h0
  have:=(VX np l x).2 ⟨hx,hl x hx⟩
  have e:lX np (l.map fun(x:Nat)=>(x:Int))=[]:=e
  rw[e]at this
  simp[fC]at this
structure jv (np:Nat)(a:dH):Prop where
 len:a.l.length≤16
 lt:∀x∈a.l,x<np
 out:∀o,a.out=some o→pP np o
theorem jv.new (h:Nat):jv np (tZ h):=⟨(by show 0≤16;decide),fun x hx=>(by cases hx),fun o h=>(by cases h)⟩
theorem jv.pop {a:dH}(h:jv np a):jv np {a with l:=a.l.take (a.l.length-1)}∧(a.l.take (a.l.length-1)).length≤15:=by
 have:=h.len
 refine⟨⟨by rw[List.length_take];omega,fun x hx=>h.lt x (List.mem_of_mem_take hx),h.out⟩,by rw[List.length_take];omega⟩
theorem jv.put {a:dH}(h:jv np a)(cU:np≤1024){x:Nat}(hx:x<np)(ho:a.out=none):
  jv np (fO np a x).1∧(((fO np a x).1.out=none∧(fO np a x).2=zd)∨((∃o,(fO np a x).1.out=some o)∧(fO np a x).2=⟨2,mz,false⟩)):=by
 have hl:=h.len
 have bY:∀y∈a.l++[x],y<np:=fun y hy=>by
  rcases List.mem_append.1 hy with hy|hy
  ·exact h.lt y hy
  ·rw[List.mem_singleton.1 hy];exact hx
 unfold fO
 split
 ·rename_i hh
  refine⟨⟨by dsimp only;rw[List.length_drop,List.length_append,List.length_singleton];omega,fun y hy=>bY y (List.mem_of_mem_drop hy),fun o e=> ?_⟩,.inr ⟨⟨_,rfl⟩,rfl⟩⟩
  injection e with e
  subst e
  refine pP.new cU (fun y hy=>bY y (List.mem_of_mem_take hy)) (fun e=> ?_) (by rw[List.length_take];omega)
  have:((a.l++[x]).take 8).length=0:=by rw[e];rfl
  rw[List.length_take,List.length_append,List.length_singleton]at this
  rw[List.length_append,List.length_singleton]at hh
  omega
 ·rename_i hh
  rw[ho]at hh
  simp only[Option.isSome_none,and_true]at hh
  exact⟨⟨by dsimp only;omega,bY,h.out⟩,.inl ⟨ho,rfl⟩⟩
theorem jv.Xk {a:dH}(h:jv np a){x:Nat}(hl:a.l.length≤15):(fO np a x).1.out=a.out:=by
 unfold fO
 rw[if_neg (by rw[List.length_append,List.length_singleton];omega)]
theorem QO {a:dH}{o:bM}{b:jN}(hd:b.done=false)(hk:b.kind=2)(ho:a.out=some o):cX ws a b=((bp ws o).1,{a with out:=if(bp ws o).2.done=true then none else some (bp ws o).2},{b with done:=(bp ws o).2.done}):=by
 unfold cX
 rw[if_neg (by simp[hd]),if_neg (by omega),if_pos hk,ho]
theorem HZ {a:dH}{b:jN}(hd:b.done=false)(hk:b.kind=3):cX ws a b=(ws,a,{b with done:=true}):=by
 unfold cX
 rw[if_neg (by simp[hd]),if_pos hk]
theorem jv.back {a:dH}{o:bM}(hp:oe np ws)(h:jv np a)(ho:a.out=some o):oe np (bp ws o).1∧jv np {a with out:=if(bp ws o).2.done=true then none else some (bp ws o).2}:=by
 obtain⟨q1,q2⟩:=(h.out o ho).xG hp
 refine⟨q1,h.len,h.lt,fun o' e=> ?_⟩
 dsimp only at e
 split at e
 ·cases e
 ·rename_i hd
  injection e with e
  subst e
  exact q2 (by simpa using hd)
end
section
variable {c:NC} {s:aW} {n:Nat} {pl:List Nat}
theorem cy.put {i:Nat}{v:bH}(h:cy n pl)(hv:v.ok)(ht:v.tr≤4):cy n (pl.set (2*i) v.num) where
 len:=by rw[List.length_set];exact h.len
 w:=Bu h.w (bH.Wy hv)
 tr:=fun x=>by
  by_cases e:i=x
  ·subst e
   rcases Nat.lt_or_ge (2*i) pl.length with hl|hl
   ·rw[qp hl,bH.WH hv];exact ht
   ·rw[List.set_eq_of_length_le hl];exact h.tr i
  ·rw[mP (by omega)];exact h.tr x
theorem cy.key {i v:Nat}(h:cy n pl)(hv:v<18446744073709551616):cy n (pl.set (2*i+1) v) where
 len:=by rw[List.length_set];exact h.len
 w:=Bu h.w hv
 tr:=fun x=>by rw[mP (by omega)];exact h.tr x
theorem cy.bL {id:Int}{a b:bH}(h:cy n s.pl)(hb:b.ok)(ht:b.tr≤4):cy n (bL s id a b).pl:=by
 unfold Go.Proofs.YtfkngchldmfpfaaGreatDoor.bL
 split
 ·exact h.put hb ht
 ·exact h
theorem cy.oO {id:Int}{f:dU}(h:cy n s.pl)(h1:f.proto<256)(h2:f.addr<4294967296)(h3:f.port<65536):cy n (oO s id f).pl:=by
 unfold Go.Proofs.YtfkngchldmfpfaaGreatDoor.oO
 exact h.key (by unfold Kh iw;omega)
theorem cy.bI {id:Int}(h:cy n s.pl):(bI s id).ok∧(bI s id).tr≤4:=by
 unfold Go.Proofs.YtfkngchldmfpfaaGreatDoor.bI
 exact⟨bH.KV (h.w _),h.tr _⟩
theorem Sm (v:Nat)(h:v<18446744073709551616):(ox v).addr<4294967296∧(ox v).port<65536:=⟨Nat.mod_lt _ (by decide),Nat.mod_lt _ (by decide)⟩
end
section
variable {n:Nat} {cs pl:List Nat} {s:aT}
theorem Bs:(fv pl s).1.kind=s.kind:=by
 unfold fv lb
 dsimp only
 repeat' split
 all_goals rfl
theorem X0 (v x:Nat):(s.jM v x).kind=s.kind:=by
 unfold aT.jM
 repeat' split
 all_goals rfl
theorem LX (v x:Nat):(s.iM v x).kind=s.kind:=by
 unfold aT.iM
 repeat' split
 all_goals rfl
theorem rO {p:Prop}[Decidable p]{a b:aT}{k:Nat}(ha:a.kind=k)(hb:b.kind=k):(if p then a else b).kind=k:=by split<;>assumption
theorem gY {p:Prop}[Decidable p]{a b:List Nat×aT}{k:Nat}(ha:a.2.kind=k)(hb:b.2.kind=k):(if p then a else b).2.kind=k:=by split<;>assumption
theorem XU:(iX cs pl s).2.kind=s.kind:=by
 unfold iX
 refine gY rfl (gY (rO Bs Bs) (gY rfl (gY (rO Bs Bs) (gY (rO rfl rfl) (gY rfl rfl)))))
theorem Rp:(cu pl n cs s).2.kind=s.kind:=by
 unfold cu
 refine gY rfl (gY rfl (gY (X0 _ _) (gY (rO (LX _ _) (LX _ _)) (gY rfl (gY (rO rfl (rO (rO rfl rfl) rfl)) (gY rfl rfl))))))
theorem TH:(gS pl n cs s).2.kind=s.kind:=by
 unfold gS
 refine gY (rO rfl rfl) (gY rfl (gY rfl (gY rfl (gY rfl ?_))))
 unfold xB
 exact gY rfl (gY rfl (gY rfl (gY rfl (gY rfl rfl))))
theorem Lb:(tg s).kind=s.kind:=by
 unfold tg
 exact rO rfl rfl
theorem RD:(rk cs s).2.kind=s.kind:=by
 unfold rk
 exact gY (gY Lb rfl) (gY rfl Lb)
theorem Mb:(bO pl n cs s).2.kind=s.kind:=by
 unfold bO
 split
 ·rfl
 split
 ·exact RD
 split
 ·exact TH
 split
 ·exact Rp
 ·exact XU
end
end
section
open Go.RowKit
structure pU (f:dU):Prop where
 proto:f.proto<256
 addr:f.addr<4294967296
 port:f.port<65536
structure dJ (c:NC)(K:Nat)(ca:Nat→dH)(f:aM):Prop where
 le:f.next≤18
 done:f.done=false
 dz:f.b.length≤140737488355328
 fin:f.next≠0→fX f
 fc:f.gJ=true→oz f.ai.proto
 cb:f.next=1→∃e,f.cb=some e∧e.Ok c.n∧e.done=false∧e.seen≤K∧e.kT=false
 start:f.next=0→f.gJ=false
 pE:f.next=1→f.out=false→0≤f.id∧f.id<((3*c.np:Nat):Int)
 find:f.next=2∨f.next=7→∃t,f.find=some t∧br c.nb (3*c.np) t∧t.done=false∧t.kind=0
 id:(3≤f.next∧f.next≤5)∨(10≤f.next∧f.next≤17)→0≤f.id∧f.id<((3*c.np:Nat):Int)
 word:f.word.ok
 tr:f.word.tr≤4
 now:f.now.ok
 dv:f.now.tr≤4
 fe:6≤f.next→f.next≤14→oz f.ai.proto
 fill:f.next=6→∃x,f.fill=some x∧x.done=false∧((x.kind=0∧ra c.np x.dE∧x.dE.done=false∧(ca (aH f.ai.proto)).l=[])∨x.kind=3)
 mB:f.next=7→∃x,f.fill=some x∧x.kind=0∧x.done=true∧j6 x.dE=true∧x.dE.Ok (mW c.np)∧x.dE.kind=0
 again:f.next=8→∃x,f.again=some x∧x.kind=1∧x.done=false∧x.dE.Ok (mW c.np)∧x.dE.kind=1∧x.dE.done=false
 enter:f.next=12→∃t,f.enter=some t∧br c.nb (3*c.np) t∧t.done=false
 back:f.next=14→∃t,f.enter=some t∧br c.nb (3*c.np) t∧t.done=true
 pop:12≤f.next→f.next≤14→(ca (aH f.ai.proto)).l.length≤15
 addr:f.next=17→f.eH.addr<4294967296∧f.eH.port<65536
structure qX (c:NC)(K:Nat)(ca:Nat→dH)(x:cI):Prop where
 le:x.next≤9
 done:x.done=false
 tick:0≤x.tick∧x.tick≤4294967295
 due:∀y∈x.due,y<3*c.np
 word:x.word.ok
 tr:x.word.tr≤4
 has:2≤x.next→x.next≤4→x.due≠ []
 drop:x.next=3→∃t,x.drop=some t∧br c.nb (3*c.np) t∧t.done=false
 on:x.next=5→∃p,x.on=some p∧p.Ok c.n∧p.done=false∧p.seen≤K∧p.kT=true∧p.at_≤c.n+1
 early:x.next≤6→x.aI=[]
 aI:∀y∈x.aI,y<3*c.np
 cl:x.aI.length≤K
 c8:x.next=8→x.aI≠ []
 out:x.next≠9→∀i,i<3→(ca i).out=none
 back:x.next=9→∃b,x.back=some b∧b.done=false∧((b.kind=3∧∀i,i<3→(ca i).out=none)∨(b.kind=2∧∃d,d<3∧(∃o,(ca d).out=some o)∧∀i,i<3→i≠d→(ca i).out=none))
def iA (o:Option aM):Nat:=match o with
 |some f=>if f.next=18 then 0 else 1
 |none=>0
def tK (o:Option cI):Nat:=match o with
 |some x=>x.due.length
 |none=>0
structure oX (c:NC)(K B:Nat)(k:aK):Prop where
 ca:∀i,i<3→jv c.np (k.ca i)
 aD:jx k.aD
 av:k.aD.av≤K
 ids:∀y∈k.aD.all,0≤y.id∧y.id<((3*c.np:Nat):Int)
 keys:(k.aS.map (·.1)).Nodup
 aS:∀p∈k.aS,pU p.2
 ended:k.ended.length≤K
 jQ:k.aD.all.length+iA k.frame+tK k.aC≤B
 one:k.frame.isSome=true→k.aC=none
 frame:∀f,k.frame=some f→dJ c K k.ca f
 aC:∀x,k.aC=some x→qX c K k.ca x
 out:k.aC=none→∀i,i<3→(k.ca i).out=none
structure pT (c:NC)(K:Nat)(ep:List Nat)(gs:List (List (Nat×Nat))):Prop where
 len:ep.length=c.n+1
 mN:gs.length=c.n
 now:ep.getD 0 0≤K
 pins:∀j,ep.getD j 0≤K+1
 ids:∀w t,t∈gs.getD w []→t.1<3*c.np∧t.2≤K
 kp:∀w,(gs.getD w []).length≤K
structure hX (c:NC)(K:Nat)(s:aW):Prop where
 pl:cy (3*c.np) s.pl
 tb:dT c.nb (3*c.np) s.tb
 po:∀i,i<3→oe c.np (s.po i)
 ep:pT c K s.ep s.gs
structure qZ (H:Nat→List Nat)(k:aK):Prop where
 find:∀f t,k.frame=some f→f.next=2∨f.next=7→f.find=some t→ib H t
 enter:∀f t,k.frame=some f→f.next=12→f.enter=some t→ib H t
 drop:∀x t,k.aC=some x→x.next=3→x.drop=some t→ib H t
structure Safe (c:NC)(K B:Nat)(n:cH):Prop where
 wl:n.wk.length=c.n
 sh:hX c K n.sh
 wk:∀w,w<c.n→oX c K B (n.wk.getD w al)
 eU:∃H,eT c.nb n.sh.tb H K∧∀w,w<c.n→qZ H (n.wk.getD w al)
section
variable {c:NC} {K B w:Nat} {s:aW} {k:aK} {f:aM} {H:Nat→List Nat}
theorem pT.more (h:pT c K s.ep s.gs):pT c (K+1) s.ep s.gs:=⟨h.len,h.mN,by have:=h.now;omega,fun j=>by have:=h.pins j;omega,fun w t ht=>⟨(h.ids w t ht).1,by have:=(h.ids w t ht).2;omega⟩,fun w=>by have:=h.kp w;omega⟩
theorem pT.ok (h:pT c K s.ep s.gs)(hc:c.Ok)(hK:K<65000):oT c.n s.ep s.gs where
 len:=h.len
 n1:=hc.n.2
 mN:=h.mN
 w:=fun j=>by have:=h.pins j;omega
 g:=fun i t ht=>by
  have:=h.ids i t ht
  have:=hc.np
  omega
theorem dJ.more (h:dJ c K k.ca f):dJ c (K+1) k.ca f:={h with
 cb:=fun e=>by
  obtain⟨x,a1,a2,a3,a4,a5⟩:=h.cb e
  exact⟨x,a1,a2,a3,by omega,a5⟩}
theorem qX.more {x:cI}(h:qX c K k.ca x):qX c (K+1) k.ca x:={h with
 on:=fun e=>by
  obtain⟨x,a1,a2,a3,a4,a5⟩:=h.on e
  exact⟨x,a1,a2,a3,by omega,a5⟩
 cl:=by have:=h.cl;omega}
theorem oX.more (h:oX c K B k):oX c (K+1) B k:={h with
 av:=by have:=h.av;omega
 ended:=by have:=h.ended;omega
 frame:=fun f e=>(h.frame f e).more
 aC:=fun x e=>(h.aC x e).more}
theorem qZ.ext {H':Nat→List Nat}(h:qZ H k)(hk:oX c K B k)(e:dh c.nb H H'):qZ H' k where
 find:=fun f t h1 h2 h3=>by
  obtain⟨t',q1,q2,_⟩:=(hk.frame f h1).find h2
  rw[h3]at q1
  injection q1 with q1
  subst q1
  exact(h.find f t h1 h2 h3).ext e q2.m
 enter:=fun f t h1 h2 h3=>by
  obtain⟨t',q1,q2,_⟩:=(hk.frame f h1).enter h2
  rw[h3]at q1
  injection q1 with q1
  subst q1
  exact(h.enter f t h1 h2 h3).ext e q2.m
 drop:=fun x t h1 h2 h3=>by
  obtain⟨t',q1,q2,_⟩:=(hk.aC x h1).drop h2
  rw[h3]at q1
  injection q1 with q1
  subst q1
  exact(h.drop x t h1 h2 h3).ext e q2.m
structure Kept (c:NC)(K B:Nat)(H:Nat→List Nat)(s:aW)(k:aK):Prop where
 sh:hX c (K+1) s
 wk:oX c (K+1) B k
 eU:∃H',dh c.nb H H'∧eT c.nb s.tb H' (K+1)∧qZ H' k
structure bN (c:NC)(K B:Nat)(H:Nat→List Nat)(s:aW)(k:aK):Prop where
 ok:c.Ok
 hK:K<65000
 sh:hX c K s
 wk:oX c K B k
 eU:eT c.nb s.tb H K
 Ca:qZ H k
theorem Dc (hd:f.done=false):fU k f={k with frame:=some f}:=if_neg (by rw[hd];decide)
theorem bN.lA (h:bN c K B H s k)(hf:k.frame=some f){f':aM}(hn:dJ c (K+1) k.ca f')(hw:iA (some f')≤iA (some f))(ht:f'.next≠2∧f'.next≠7∧f'.next≠12){s':aW}(hs:hX c (K+1) s')(mq:s'.tb=s.tb):Kept c K B H s' (fU k f'):=by
 rw[Dc hn.done]
 have hk:=h.wk
 have gx:k.aC=none:=hk.one (by rw[hf];rfl)
 refine⟨hs,?_,H,dh.refl _ _,by rw[mq];exact h.eU.more (by omega),⟨fun g t e1 e2 e3=> ?_,fun g t e1 e2 e3=> ?_,fun x t e1=> ?_⟩⟩
 ·have hm:=hk.more
  have hb:=hk.jQ
  rw[hf]at hb
  exact {hm with
   jQ:=by show k.aD.all.length+iA (some f')+tK k.aC≤B;omega
   one:=fun _=>gx
   frame:=fun g e=>by injection e with e;subst e;exact hn
   aC:=fun x e=>by
    have e:k.aC=some x:=e
    rw[gx]at e;cases e
   out:=hk.out}
 ·injection e1 with e1;subst e1;omega
 ·injection e1 with e1;subst e1;omega
 ·have e1:k.aC=some x:=e1
  rw[gx]at e1;cases e1
theorem bN.vJ (h:bN c K B H s k)(hf:k.frame=some f){f':aM}(hn:dJ c (K+1) k.ca f')(hw:iA (some f')≤iA (some f)){s':aW}(hs:hX c (K+1) s')
  {H':Nat→List Nat} (he:dh c.nb H H') (hh:eT c.nb s'.tb H' (K+1)) (ht:∀t,f'.next=2∨f'.next=7→f'.find=some t→ib H' t) (mn:∀t,f'.next=12→f'.enter=some t→ib H' t):Kept c K B H s' (fU k f'):=by
 rw[Dc hn.done]
 have hk:=h.wk
 have gx:k.aC=none:=hk.one (by rw[hf];rfl)
 refine⟨hs,?_,H',he,hh,⟨fun g t e1 e2 e3=> ?_,fun g t e1 e2 e3=> ?_,fun x t e1=> ?_⟩⟩
 ·have hm:=hk.more
  have hb:=hk.jQ
  rw[hf]at hb
  exact {hm with
   jQ:=by show k.aD.all.length+iA (some f')+tK k.aC≤B;omega
   one:=fun _=>gx
   frame:=fun g e=>by injection e with e;subst e;exact hn
   aC:=fun x e=>by
    have e:k.aC=some x:=e
    rw[gx]at e;cases e
   out:=hk.out}
 ·injection e1 with e1;subst e1;exact ht t e2 e3
 ·injection e1 with e1;subst e1;exact mn t e2 e3
 ·have e1:k.aC=some x:=e1
  rw[gx]at e1;cases e1
theorem hX.more (h:hX c K s):hX c (K+1) s:=⟨h.pl,h.tb,h.po,h.ep.more⟩
theorem ja (f f':aM)(h:f.next≠18):iA (some f')≤iA (some f):=by
 unfold iA
 dsimp only
 rw[if_neg h]
 split<;>omega
theorem fX.same {f':aM}(h:fX f)(h1:f'.b=f.b)(h2:f'.tick=f.tick)(h3:f'.ai=f.ai)(h4:f'.part=f.part):fX f':=⟨by rw[h1];exact h.dz,by rw[h2];exact h.tick,by rw[h3];exact h.proto,by rw[h3];exact h.addr,by rw[h3];exact h.port,by rw[h4];exact h.flags⟩
theorem dJ.rp (hd:f.done=false)(hb:f.b.length≤140737488355328)(hi:fX f)(ur:f.gJ=true→oz f.ai.proto)(h1:f.word.ok)(h2:f.word.tr≤4)(h3:f.now.ok)(h4:f.now.tr≤4)(l:List UInt8)(e:Nat):dJ c K k.ca (f.fin l e) where
 le:=by show 18≤18;omega
 done:=hd
 dz:=hb
 fin:=fun _=>hi.same rfl rfl rfl rfl
 fc:=ur
 cb:=fun e=>by have e:18=1:=e;omega
 start:=fun e=>by have e:18=0:=e;omega
 pE:=fun e=>by have e:18=1:=e;omega
 find:=fun e=>by have e:18=2∨18=7:=e;omega
 id:=fun e=>by have e:(3≤18∧18≤5)∨(10≤18∧18≤17):=e;omega
 word:=h1
 tr:=h2
 now:=h3
 dv:=h4
 fe:=fun _ e=>by have e:18≤14:=e;omega
 fill:=fun e=>by have e:18=6:=e;omega
 mB:=fun e=>by have e:18=7:=e;omega
 again:=fun e=>by have e:18=8:=e;omega
 enter:=fun e=>by have e:18=12:=e;omega
 back:=fun e=>by have e:18=14:=e;omega
 pop:=fun _ e=>by have e:18≤14:=e;omega
 addr:=fun e=>by have e:18=17:=e;omega
theorem dJ.AN (hd:f.done=false)(hb:f.b.length≤140737488355328)(hi:fX f)(ur:f.gJ=true→oz f.ai.proto)(h3:f.now.ok)(h4:f.now.tr≤4){id:Int}{v:bH}(hv:v.ok)(ht:v.tr≤4)(i0:0≤id)(i1:id<((3*c.np:Nat):Int)):dJ c K k.ca (f.jW id v):=by
 have hx:(f.jW id v).next=3∨(f.jW id v).next=4:=by unfold aM.jW;dsimp only;split<;>omega
 refine {
  le:=by omega
  done:=hd
  dz:=hb
  fin:=fun _=>hi.same rfl rfl rfl rfl
  fc:=ur
  cb:=fun e=>by omega
  start:=fun e=>by omega
  pE:=fun e=>by omega
  find:=fun e=>by omega
  id:=fun _=>⟨i0,i1⟩
  word:=hv
  tr:=ht
  now:=h3
  dv:=h4
  fe:=fun e=>by omega
  fill:=fun e=>by omega
  mB:=fun e=>by omega
  again:=fun e=>by omega
  enter:=fun e=>by omega
  back:=fun e=>by omega
  pop:=fun e=>by omega
  addr:=fun e=>by omega}
theorem AO (id:Int)(v:bH):(f.jW id v).next=3∨(f.jW id v).next=4:=by unfold aM.jW;dsimp only;split<;>omega
theorem Mc (hc:c.Ok){fl:dU}(h1:fl.proto<256)(h2:fl.addr<4294967296)(h3:fl.port<65536):br c.nb (3*c.np) (kH c 0 fl (-1) 0):=
 FZ hc.nb.1 (by have:=hc.np;omega) (by omega) h2 h3 (by omega) (by have:=hc.np;omega) (by decide) (fun e=>absurd rfl e) (.inl rfl)
theorem Yw (hc:c.Ok){fl:dU}(h1:fl.proto<256)(h2:fl.addr<4294967296)(h3:fl.port<65536){id:Int}(i0:0≤id)(i1:id<((3*c.np:Nat):Int)):br c.nb (3*c.np) (kH c 1 fl id 0):=
 FZ hc.nb.1 (by have:=hc.np;omega) (by omega) h2 h3 (by omega) i1 (by decide) (fun _=>i0) (.inl rfl)
theorem Yv (hc:c.Ok){fl:dU}(h1:fl.proto<256)(h2:fl.addr<4294967296)(h3:fl.port<65536){id:Int}(i0:0≤id)(i1:id<((3*c.np:Nat):Int)):br c.nb (3*c.np) (kH c 2 fl id 23):=
 FZ hc.nb.1 (by have:=hc.np;omega) (by omega) h2 h3 (by omega) i1 (by decide) (fun _=>i0) (.inr ⟨rfl,by decide⟩)
theorem ze {kind next:Nat}{fl:dU}{id:Int}(hx:next=0∨next=23):ib H (kH c kind fl id next):=YC hx
theorem dJ.Ks (hc:c.Ok)(hd:f.done=false)(hb:f.b.length≤140737488355328)(hi:fX f)(ur:f.gJ=true→oz f.ai.proto)(h1:f.word.ok)(h2:f.word.tr≤4)(h3:f.now.ok)(h4:f.now.tr≤4):dJ c K k.ca (f.look c) where
 le:=by show 2≤18;omega
 done:=hd
 dz:=hb
 fin:=fun _=>hi.same rfl rfl rfl rfl
 fc:=ur
 cb:=fun e=>by have e:2=1:=e;omega
 start:=fun e=>by have e:2=0:=e;omega
 pE:=fun e=>by have e:2=1:=e;omega
 find:=fun _=>⟨_,rfl,Mc hc hi.proto hi.addr hi.port,rfl,rfl⟩
 id:=fun e=>by have e:(3≤2∧2≤5)∨(10≤2∧2≤17):=e;omega
 word:=h1
 tr:=h2
 now:=h3
 dv:=h4
 fe:=fun e=>by have e:6≤2:=e;omega
 fill:=fun e=>by have e:2=6:=e;omega
 mB:=fun e=>by have e:2=7:=e;omega
 again:=fun e=>by have e:2=8:=e;omega
 enter:=fun e=>by have e:2=12:=e;omega
 back:=fun e=>by have e:2=14:=e;omega
 pop:=fun e=>by have e:12≤2:=e;omega
 addr:=fun e=>by have e:2=17:=e;omega
theorem dJ.ID (hc:c.Ok)(hk:(k.ca (aH f.ai.proto)).out=none)(hd:f.done=false)(hb:f.b.length≤140737488355328)(hi:fX f)(hg:oz f.ai.proto)(h1:f.word.ok)(h2:f.word.tr≤4)(h3:f.now.ok)(h4:f.now.tr≤4):dJ c K k.ca (f.vI c k) where
 le:=by show 6≤18;omega
 done:=hd
 dz:=hb
 fin:=fun _=>hi.same rfl rfl rfl rfl
 fc:=fun _=>hg
 cb:=fun e=>by have e:6=1:=e;omega
 start:=fun e=>by have e:6=0:=e;omega
 pE:=fun e=>by have e:6=1:=e;omega
 find:=fun e=>by have e:6=2∨6=7:=e;omega
 id:=fun e=>by have e:(3≤6∧6≤5)∨(10≤6∧6≤17):=e;omega
 word:=h1
 tr:=h2
 now:=h3
 dv:=h4
 fe:=fun _ _=>hg
 fill:=fun _=>by
  refine⟨_,rfl,?_⟩
  show(ou c.np (k.ca (aH f.ai.proto))).done=false∧(((ou c.np (k.ca (aH f.ai.proto))).kind=0∧ra c.np (ou c.np (k.ca (aH f.ai.proto))).dE∧(ou c.np (k.ca (aH f.ai.proto))).dE.done=false∧(k.ca (aH f.ai.proto)).l=[])∨(ou c.np (k.ca (aH f.ai.proto))).kind=3)
  unfold ou
  split
  ·exact⟨rfl,.inr rfl⟩
  ·rename_i hh
   have hl:(k.ca (aH f.ai.proto)).l=[]:=Classical.byContradiction fun e=>hh (.inl e)
   exact⟨rfl,.inl ⟨rfl,ra.new hc.np.1 _,rfl,hl⟩⟩
 mB:=fun e=>by have e:6=7:=e;omega
 again:=fun e=>by have e:6=8:=e;omega
 enter:=fun e=>by have e:6=12:=e;omega
 back:=fun e=>by have e:6=14:=e;omega
 pop:=fun e=>by have e:12≤6:=e;omega
 addr:=fun e=>by have e:6=17:=e;omega
end
end
section
open Go.RowKit
section
variable {c:NC} {K B w:Nat} {s:aW} {k:aK} {f:aM} {H:Nat→List Nat}
theorem Qv {out:Bool}{b:List UInt8}(h:o5 out b=true):oz (ed out b).proto:=by
 unfold o5 at h
 simp only[Bool.and_eq_true,decide_eq_true_eq,Bool.not_eq_true']at h
 obtain⟨⟨⟨h1,h2⟩,h3⟩,h4⟩:=h
 subst h1
 have e1:dP false b=0:=by
  unfold eA at h2
  split at h2
  ·assumption
  ·exact absurd h2 (by assumption)
 have e2:j9 (bo b) b=0:=by
  unfold eA at h2
  rwa[if_pos e1]at h2
 have e3:(ed true b).proto=(bo b).proto:=by
  unfold ed Bi
  rw[if_pos rfl,if_neg (by rw[h3];decide)]
 rw[e3]
 unfold j9 at e2
 unfold oz
 split at e2
 ·omega
 split at e2
 ·omega
 split at e2
 ·omega
 ·cases e2
theorem Xb (hc:c.Ok)(proto port:Int)(h:0≤ka c.cfg proto port):ka c.cfg proto port<((3*c.np:Nat):Int):=by
 have hp:=hc.bK
 have cU:=hc.np
 have e:c.cfg.lo=(c.lo:Int):=rfl
 have e2:c.cfg.hi=(c.hi:Int):=rfl
 have hk:gX proto≤2:=by unfold gX;repeat' split<;>omega
 unfold ka at h ⊢
 rw[hp]at h ⊢
 split at h
 ·omega
 rename_i hh
 rw[if_neg hh]
 rw[e,e2]at hh
 rw[e]at h ⊢
 have hn:c.np=c.hi+1-c.lo:=rfl
 have h0:0≤gX proto:=by omega
 have h1:gX proto=0∨gX proto=1∨gX proto=2:=by omega
 rcases h1 with h1|h1|h1<;>rw[h1]<;>omega
theorem fX.WJ (hb:f.b.length≤140737488355328)(ht:¬(f.tick<0∨f.tick>4294967295))(h1:f.ai=ed f.out f.b)(h2:f.part=fR f.b):fX f:=by
 obtain⟨p1,p2,p3⟩:=MA f.out f.b
 exact⟨hb,by omega,by rw[h1];exact p1,by rw[h1];exact p2,by rw[h1];exact p3,by rw[h2];exact(sH.of (bo f.b) f.b).flags⟩
theorem RM {e:jg}(hk:pT c K s.ep s.gs)(ho:e.Ok c.n)(hs:e.seen≤K)(ha:e.kT=false)(hd:e.done=false)(hK:K<65000):pT c (K+1) (cv c.n s.ep e).1 s.gs∧(cv c.n s.ep e).2.Ok c.n∧(cv c.n s.ep e).2.seen≤K+1∧(cv c.n s.ep e).2.kT=false∧(cv c.n s.ep e).2.worker=e.worker:=by
 unfold cv
 rw[if_neg (by rw[hd];decide),if_neg (by rw[ha];decide)]
 unfold nF
 have hn:=hk.now
 split
 ·exact⟨hk.more,⟨ho.worker,by show 1≤100;omega,fun _=>by show 1≤2;omega,by show s.ep.getD 0 0<_;have:=hk.pins 0;have:=ho.seen;omega⟩,by show s.ep.getD 0 0≤_;omega,ha,rfl⟩
 split
 ·refine⟨?_,⟨ho.worker,by show 2≤100;omega,fun _=>by show 2≤2;omega,ho.seen⟩,by show e.seen≤_;omega,ha,rfl⟩
  refine⟨by rw[List.length_set];exact hk.len,hk.mN,?_,fun j=> ?_,hk.more.ids,hk.more.kp⟩
  ·rw[mP (by omega)];omega
  ·by_cases e:1+e.worker=j
   ·subst e
    rw[qp (by rw[hk.len];have:=ho.worker;omega)];omega
   ·rw[mP e];have:=hk.pins j;omega
 ·exact⟨hk.more,⟨ho.worker,by show 0≤100;omega,fun _=>by show 0≤2;omega,ho.seen⟩,by show e.seen≤_;omega,ha,rfl⟩
theorem LV {v:bH}(hi:fX f)(hv:v.ok)(ht:v.tr≤4):(f.jL v).ok∧(f.jL v).tr≤4:=by
 unfold aM.jL
 split
 ·exact⟨hv,ht⟩
 ·have h1:=Fj (proto:=f.ai.proto) (s:=v.tr) (flags:=f.part.flags) (out:=f.out) ht
  have h2:=hi.tick
  obtain⟨a,b,d,e⟩:=hv
  refine⟨⟨a,b,by dsimp only;omega,?_⟩,h1⟩
  dsimp only
  split<;>omega
theorem bN.Ap (h:bN c K B H s k)(hf:k.frame=some f){f':aM}(hd:f'.done=true){s':aW}(hs:hX c (K+1) s')(mq:s'.tb=s.tb):Kept c K B H s' (fU k f'):=by
 have e:fU k f'={k with bt:=f'.gD,fh:=f'.oo,any:=true,frame:=none}:=if_pos hd
 rw[e]
 have hk:=h.wk
 have gx:k.aC=none:=hk.one (by rw[hf];rfl)
 refine⟨hs,?_,H,dh.refl _ _,by rw[mq];exact h.eU.more (by omega),⟨fun g t e1=>(by cases e1),fun g t e1=>(by cases e1),fun x t e1=> ?_⟩⟩
 ·have hm:=hk.more
  have hb:=hk.jQ
  exact {hm with
   jQ:=by show k.aD.all.length+0+tK k.aC≤B;omega
   one:=fun e=>by cases e
   frame:=fun g e=>by cases e
   aC:=fun x e=>by
    have e:k.aC=some x:=e
    rw[gx]at e;cases e
   out:=hk.out}
 ·have e1:k.aC=some x:=e1
  rw[gx]at e1;cases e1
theorem U5 (h:bN c K B H s k)(hw:w<c.n)(hf:k.frame=some f)(e:f.next=0):Kept c K B H s (fU k (pN c w f)):=by
 have hs:=h.wk.frame f hf
 unfold pN
 split
 ·exact h.Ap hf rfl h.sh.more rfl
 rename_i ht
 split
 ·exact h.Ap hf rfl h.sh.more rfl
 rename_i he
 split
 ·exact h.Ap hf rfl h.sh.more rfl
 rename_i hp
 refine h.lA hf ?_ (ja _ _ (by omega)) ⟨by show 1≠2;omega,by show 1≠7;omega,by show 1≠12;omega⟩ h.sh.more rfl
 exact {
  le:=by show 1≤18;omega
  done:=hs.done
  dz:=hs.dz
  fin:=fun _=>fX.WJ hs.dz ht rfl rfl
  fc:=fun e=>Qv e
  cb:=fun _=>⟨_,rfl,⟨hw,by show 0≤100;omega,fun _=>by show 0≤2;omega,by show 0<4611686018427387904;omega⟩,rfl,Nat.zero_le _,rfl⟩
  start:=fun e=>by have e:1=0:=e;omega
  pE:=fun _ e=>by
   have e:f.out=false:=e
   have vX:0≤ka c.cfg (ed f.out f.b).proto (ed f.out f.b).port:=by
    by_cases hh:ka c.cfg (ed f.out f.b).proto (ed f.out f.b).port<0
    ·exact absurd ⟨e,hh⟩ hp
    ·omega
   have hid:(if f.out=true then f.id else ka c.cfg (ed f.out f.b).proto (ed f.out f.b).port)=ka c.cfg (ed f.out f.b).proto (ed f.out f.b).port:=if_neg (by rw[e];decide)
   dsimp only
   rw[hid]
   exact⟨vX,Xb h.ok _ _ vX⟩
  find:=fun e=>by have e:1=2∨1=7:=e;omega
  id:=fun e=>by have e:(3≤1∧1≤5)∨(10≤1∧1≤17):=e;omega
  word:=hs.word
  tr:=hs.tr
  now:=hs.now
  dv:=hs.dv
  fe:=fun e=>by have e:6≤1:=e;omega
  fill:=fun e=>by have e:1=6:=e;omega
  mB:=fun e=>by have e:1=7:=e;omega
  again:=fun e=>by have e:1=8:=e;omega
  enter:=fun e=>by have e:1=12:=e;omega
  back:=fun e=>by have e:1=14:=e;omega
  pop:=fun e=>by have e:12≤1:=e;omega
  addr:=fun e=>by have e:1=17:=e;omega}
theorem U6 (h:bN c K B H s k)(hf:k.frame=some f)(e:f.next=1){p:jg}(hp:f.cb=some p):
  Kept c K B H {s with ep:=(cv c.n s.ep p).1} (fU k (if(cv c.n s.ep p).2.done=false then {f with cb:=some (cv c.n s.ep p).2}
    else if f.out=true then {f with cb:=some (cv c.n s.ep p).2,pinned:=true}.look c else {f with cb:=some (cv c.n s.ep p).2,pinned:=true,next:=15})):=by
 have hs:=h.wk.frame f hf
 have cE:=hs.fin (by omega)
 obtain⟨p',q1,q2,q3,q4,q5⟩:=hs.cb e
 rw[hp]at q1
 injection q1 with q1
 subst q1
 obtain⟨r1,r2,r3,r4,_⟩:=RM h.sh.ep q2 q4 q5 q3 h.hK
 have ei:hX c (K+1) {s with ep:=(cv c.n s.ep p).1}:=⟨h.sh.pl,h.sh.tb,h.sh.po,r1⟩
 generalize cv c.n s.ep p=D at*
 obtain⟨kg,p2⟩:=D
 dsimp only at*
 split
 ·rename_i hd
  refine h.lA hf ?_ (ja _ _ (by omega)) ⟨by show f.next≠2;omega,by show f.next≠7;omega,by show f.next≠12;omega⟩ ei rfl
  exact {hs.more with
   fin:=fun e=>(hs.fin e).same rfl rfl rfl rfl
   cb:=fun _=>⟨p2,rfl,r2,hd,r3,r4⟩}
 split
 ·refine h.vJ hf (dJ.Ks (f:={f with cb:=some p2,pinned:=true}) h.ok hs.done hs.dz (cE.same rfl rfl rfl rfl) hs.fc hs.word hs.tr hs.now hs.dv) (ja _ _ (by omega)) ei (dh.refl _ _) (h.eU.more (by omega)) (fun t _ e=> ?_) (fun t e=>by have e:2=12:=e;omega)
  injection e with e
  subst e
  exact ze (.inl rfl)
 ·rename_i ho
  have ho:f.out=false:=by simpa using ho
  refine h.lA hf ?_ (ja _ _ (by omega)) ⟨by show 15≠2;omega,by show 15≠7;omega,by show 15≠12;omega⟩ ei rfl
  exact {
   le:=by show 15≤18;omega
   done:=hs.done
   dz:=hs.dz
   fin:=fun _=>cE.same rfl rfl rfl rfl
   fc:=hs.fc
   cb:=fun e=>by have e:15=1:=e;omega
   start:=fun e=>by have e:15=0:=e;omega
   pE:=fun e=>by have e:15=1:=e;omega
   find:=fun e=>by have e:15=2∨15=7:=e;omega
   id:=fun _=>hs.pE e ho
   word:=hs.word
   tr:=hs.tr
   now:=hs.now
   dv:=hs.dv
   fe:=fun _ e=>by have e:15≤14:=e;omega
   fill:=fun e=>by have e:15=6:=e;omega
   mB:=fun e=>by have e:15=7:=e;omega
   again:=fun e=>by have e:15=8:=e;omega
   enter:=fun e=>by have e:15=12:=e;omega
   back:=fun e=>by have e:15=14:=e;omega
   pop:=fun _ e=>by have e:15≤14:=e;omega
   addr:=fun e=>by have e:15=17:=e;omega}
theorem hX.B7 (h:hX c K s){cs:List Nat}(qs:dT c.nb (3*c.np) cs):hX c (K+1) {s with tb:=cs}:=⟨h.pl,qs,h.po,h.ep.more⟩
theorem hX.put (h:hX c K s){id:Int}{a b:bH}(hb:b.ok)(ht:b.tr≤4):hX c (K+1) (bL s id a b):=by
 have:=h.pl.bL (id:=id) (a:=a) hb ht
 unfold bL at*
 split
 ·rename_i e
  rw[if_pos e]at this
  exact⟨this,h.tb,h.po,h.ep.more⟩
 ·exact h.more
theorem Ve (h:bN c K B H s k)(hf:k.frame=some f)(e:f.next=2){t:aT}(ht:f.find=some t):
  Kept c K B H {s with tb:=(bO s.pl c.nb s.tb t).1} (fU k (if(bO s.pl c.nb s.tb t).2.done=false then {f with find:=some (bO s.pl c.nb s.tb t).2}else vE c k {f with find:=some (bO s.pl c.nb s.tb t).2} (bO s.pl c.nb s.tb t).2)):=by
 have hs:=h.wk.frame f hf
 have cE:=hs.fin (by omega)
 obtain⟨t',q1,q2,q3,q4⟩:=hs.find (.inl e)
 rw[ht]at q1
 injection q1 with q1
 subst q1
 obtain⟨⟨H',e1,e2,e3⟩,kc,ko⟩:=B6 h.sh.tb h.sh.pl h.eU h.hK q2 (h.Ca.find f t hf (.inl e) ht)
 have bE:(bO s.pl c.nb s.tb t).2.kind=0:=by rw[Mb];exact q4
 have ei:=h.sh.B7 kc
 generalize bO s.pl c.nb s.tb t=D at*
 obtain⟨eG,t2⟩:=D
 dsimp only at*
 split
 ·rename_i hd
  refine h.vJ hf ?_ (ja _ _ (by omega)) ei e1 e2 (fun u _ eu=>by injection eu with eu;subst eu;exact e3) (fun u eu=>by have eu:f.next=12:=eu;omega)
  exact {hs.more with
   fin:=fun e=>(hs.fin e).same rfl rfl rfl rfl
   find:=fun _=>⟨t2,rfl,ko,hd,bE⟩}
 ·rename_i hd
  have hd:t2.done=true:=by simpa using hd
  unfold vE
  split
  ·rename_i h0
   obtain hx:=AO (f:={f with find:=some t2}) t2.found t2.aP
   exact h.vJ hf (dJ.AN (f:={f with find:=some t2}) hs.done hs.dz (cE.same rfl rfl rfl rfl) hs.fc hs.now hs.dv ko.aP ko.xS (ko.uC hd bE h0) ko.xR) (ja _ _ (by omega)) ei e1 e2 (fun u eu=>by omega) (fun u eu=>by omega)
  split
  ·rename_i hb
   exact h.vJ hf (dJ.ID (f:={f with find:=some t2}) h.ok (h.wk.out (h.wk.one (by rw[hf];rfl)) _ (k9 _)) hs.done hs.dz (cE.same rfl rfl rfl rfl) (hs.fc hb) hs.word hs.tr hs.now hs.dv) (ja _ _ (by omega)) ei e1 e2 (fun u eu=>by have eu:6=2∨6=7:=eu;omega) (fun u eu=>by have eu:6=12:=eu;omega)
  ·exact h.vJ hf (dJ.rp (f:={f with find:=some t2}) hs.done hs.dz (cE.same rfl rfl rfl rfl) hs.fc hs.word hs.tr hs.now hs.dv [] 7) (ja _ _ (by omega)) ei e1 e2 (fun u eu=>by have eu:18=2∨18=7:=eu;omega) (fun u eu=>by have eu:18=12:=eu;omega)
theorem dJ.known (hs:dJ c K k.ca f)(h1:3≤f.next)(h2:f.next≤5){n2:Nat}(h3:3≤n2)(h4:n2≤5){v u:bH}(hv:v.ok)(ht:v.tr≤4)(hu:u.ok)(Uy:u.tr≤4):dJ c K k.ca {f with next:=n2,word:=v,now:=u} where
 le:=by show n2≤18;omega
 done:=hs.done
 dz:=hs.dz
 fin:=fun _=>(hs.fin (by omega)).same rfl rfl rfl rfl
 fc:=hs.fc
 cb:=fun e=>by have e:n2=1:=e;omega
 start:=fun e=>by have e:n2=0:=e;omega
 pE:=fun e=>by have e:n2=1:=e;omega
 find:=fun e=>by have e:n2=2∨n2=7:=e;omega
 id:=fun _=>hs.id (.inl ⟨h1,h2⟩)
 word:=hv
 tr:=ht
 now:=hu
 dv:=Uy
 fe:=fun e=>by have e:6≤n2:=e;omega
 fill:=fun e=>by have e:n2=6:=e;omega
 mB:=fun e=>by have e:n2=7:=e;omega
 again:=fun e=>by have e:n2=8:=e;omega
 enter:=fun e=>by have e:n2=12:=e;omega
 back:=fun e=>by have e:n2=14:=e;omega
 pop:=fun e=>by have e:12≤n2:=e;omega
 addr:=fun e=>by have e:n2=17:=e;omega
theorem Vf (h:bN c K B H s k)(hf:k.frame=some f)(e1:3≤f.next)(e2:f.next≤5):Kept c K B H (gG c s k f).1 (fU k (gG c s k f).2):=by
 have hs:=h.wk.frame f hf
 have cE:=hs.fin (by omega)
 obtain⟨l1,l2⟩:=h.sh.pl.bI (id:=f.id)
 unfold gG
 rw[if_neg (by omega)]
 split
 ·refine h.lA hf ?_ (ja _ _ (by omega)) ⟨by show 4≠2;omega,by show 4≠7;omega,by show 4≠12;omega⟩ (h.sh.put ⟨by show 2≤3;omega,hs.word.2⟩ hs.tr) (gN _ _ _ _).2.2.1
  exact hs.more.known e1 e2 (by omega) (by omega) hs.word hs.tr hs.now hs.dv
 split
 ·unfold wH
  split
  ·refine h.vJ hf (dJ.Ks h.ok hs.done hs.dz (cE.same rfl rfl rfl rfl) hs.fc hs.word hs.tr hs.now hs.dv) (ja _ _ (by omega)) h.sh.more (dh.refl _ _) (h.eU.more (by omega)) (fun t _ e=> ?_) (fun t e=>by have e:2=12:=e;omega)
   injection e with e
   subst e
   exact ze (.inl rfl)
  split
  ·obtain hx:=AO (f:=f) f.id (bI s f.id)
   exact h.lA hf (dJ.AN hs.done hs.dz (cE.same rfl rfl rfl rfl) hs.fc hs.now hs.dv l1 l2 (hs.id (.inl ⟨e1,e2⟩)).1 (hs.id (.inl ⟨e1,e2⟩)).2) (ja _ _ (by omega)) ⟨by omega,by omega,by omega⟩ h.sh.more rfl
  obtain⟨s1,s2⟩:=LV cE l1 l2
  split
  ·exact h.lA hf (dJ.rp (f:={f with word:=bI s f.id,now:=f.jL (bI s f.id),next:=5}) hs.done hs.dz (cE.same rfl rfl rfl rfl) hs.fc l1 l2 s1 s2 _ _) (ja _ _ (by omega)) ⟨by show 18≠2;omega,by show 18≠7;omega,by show 18≠12;omega⟩ h.sh.more rfl
  ·exact h.lA hf (hs.more.known e1 e2 (by omega) (by omega) l1 l2 s1 s2) (ja _ _ (by omega)) ⟨by show 5≠2;omega,by show 5≠7;omega,by show 5≠12;omega⟩ h.sh.more rfl
 ·split
  ·exact h.lA hf (dJ.rp (f:={f with next:=4}) hs.done hs.dz (cE.same rfl rfl rfl rfl) hs.fc hs.word hs.tr hs.now hs.dv _ _) (ja _ _ (by omega)) ⟨by show 18≠2;omega,by show 18≠7;omega,by show 18≠12;omega⟩ (h.sh.put hs.now hs.dv) (gN _ _ _ _).2.2.1
  ·exact h.lA hf (hs.more.known e1 e2 (by omega) (by omega) hs.word hs.tr hs.now hs.dv) (ja _ _ (by omega)) ⟨by show 4≠2;omega,by show 4≠7;omega,by show 4≠12;omega⟩ (h.sh.put hs.now hs.dv) (gN _ _ _ _).2.2.1
theorem Vc (h:bN c K B H s k)(hf:k.frame=some f)(e1:15≤f.next)(e2:f.next≤17):Kept c K B H (gW c s f).1 (fU k (gW c s f).2):=by
 have hs:=h.wk.frame f hf
 have cE:=hs.fin (by omega)
 obtain⟨l1,l2⟩:=h.sh.pl.bI (id:=f.id)
 have hid:=hs.id (.inr ⟨by omega,e2⟩)
 have to:∀ {g:aM},15≤g.next→g.next≤17→g.done=f.done→g.b=f.b→fX g→g.gJ=f.gJ→g.ai=f.ai→g.id=f.id→g.word.ok→g.word.tr≤4→g.now.ok→g.now.tr≤4→(g.next=17→g.eH.addr<4294967296∧g.eH.port<65536)→dJ c (K+1) k.ca g:=fun {g} a1 a2 a3 a4 a5 a6 a7 a8 a9 b1 b2 b3 b4=>{
  le:=by omega
  done:=by rw[a3];exact hs.done
  dz:=by rw[a4];exact hs.dz
  fin:=fun _=>a5
  fc:=by rw[a6,a7];exact hs.fc
  cb:=fun e=>by omega
  start:=fun e=>by omega
  pE:=fun e=>by omega
  find:=fun e=>by omega
  id:=fun _=>by rw[a8];exact hid
  word:=a9
  tr:=b1
  now:=b2
  dv:=b3
  fe:=fun _ e=>by omega
  fill:=fun e=>by omega
  mB:=fun e=>by omega
  again:=fun e=>by omega
  enter:=fun e=>by omega
  back:=fun e=>by omega
  pop:=fun _ e=>by omega
  addr:=b4}
 have n18:∀ {g:aM},g.next=18→g.next≠2∧g.next≠7∧g.next≠12:=fun e=>by omega
 unfold gW
 split
 ·split
  ·exact h.lA hf (dJ.rp (f:={f with word:=bI s f.id,next:=16}) hs.done hs.dz (cE.same rfl rfl rfl rfl) hs.fc l1 l2 hs.now hs.dv _ _) (ja _ _ (by omega)) (n18 rfl) h.sh.more rfl
  ·exact h.lA hf (to (g:={f with word:=bI s f.id,next:=16}) (by show 15≤16;omega) (by show 16≤17;omega) rfl rfl (cE.same rfl rfl rfl rfl) rfl rfl rfl l1 l2 hs.now hs.dv (fun e=>by have e:16=17:=e;omega)) (ja _ _ (by omega)) ⟨by show 16≠2;omega,by show 16≠7;omega,by show 16≠12;omega⟩ h.sh.more rfl
 split
 ·obtain⟨s1,s2⟩:=LV cE hs.word hs.tr
  exact h.lA hf (to (g:={f with eH:=ox (qC s f.id),now:=f.jL f.word,next:=17}) (by show 15≤17;omega) (by show 17≤17;omega) rfl rfl (cE.same rfl rfl rfl rfl) rfl rfl rfl hs.word hs.tr s1 s2 (fun _=>Sm _ (h.sh.pl.w _))) (ja _ _ (by omega)) ⟨by show 17≠2;omega,by show 17≠7;omega,by show 17≠12;omega⟩ h.sh.more rfl
 split
 ·split
  ·exact h.lA hf (dJ.rp (f:={f with next:=15}) hs.done hs.dz (cE.same rfl rfl rfl rfl) hs.fc hs.word hs.tr hs.now hs.dv _ _) (ja _ _ (by omega)) (n18 rfl) h.sh.more rfl
  ·exact h.lA hf (to (g:={f with next:=15}) (by show 15≤15;omega) (by show 15≤17;omega) rfl rfl (cE.same rfl rfl rfl rfl) rfl rfl rfl hs.word hs.tr hs.now hs.dv (fun e=>by have e:15=17:=e;omega)) (ja _ _ (by omega)) ⟨by show 15≠2;omega,by show 15≠7;omega,by show 15≠12;omega⟩ h.sh.more rfl
 ·split
  ·exact h.lA hf (dJ.rp (f:={f with next:=15}) hs.done hs.dz (cE.same rfl rfl rfl rfl) hs.fc hs.word hs.tr hs.now hs.dv _ _) (ja _ _ (by omega)) (n18 rfl) (h.sh.put hs.now hs.dv) (gN _ _ _ _).2.2.1
  ·exact h.lA hf (to (g:={f with next:=15}) (by show 15≤15;omega) (by show 15≤17;omega) rfl rfl (cE.same rfl rfl rfl rfl) rfl rfl rfl hs.word hs.tr hs.now hs.dv (fun e=>by have e:15=17:=e;omega)) (ja _ _ (by omega)) ⟨by show 15≠2;omega,by show 15≠7;omega,by show 15≠12;omega⟩ (h.sh.put hs.now hs.dv) (gN _ _ _ _).2.2.1
theorem Vd (h:bN c K B H s k)(hw:w<c.n)(hf:k.frame=some f):Kept c K B H {s with ep:=s.ep.set (1+w) 0} (fU k {f with pinned:=false,done:=true}):=by
 refine h.Ap hf rfl ⟨h.sh.pl,h.sh.tb,h.sh.po,?_⟩ rfl
 have hk:=h.sh.ep
 refine⟨by rw[List.length_set];exact hk.len,hk.mN,?_,fun j=> ?_,hk.more.ids,hk.more.kp⟩
 ·dsimp only
  rw[mP (by omega)];have:=hk.now;omega
 ·dsimp only
  by_cases e:1+w=j
  ·subst e
   rw[qp (by rw[hk.len];omega)];omega
  ·rw[mP e];have:=hk.pins j;omega
end
end
end Go.Proofs.YtfkngchldmfpfaaGreatDoor
