/-
  A part of a proof, joined by a program (wip/bundle3.py).
-/
import Derived.Test.YtfkngchldmfpfaaGreatDoorG8
import Derived.Test.YtfkngchldmfpfaaGreatDoorG9
set_option linter.unusedVariables false
set_option linter.unusedSimpArgs false
namespace Go.Proofs.YtfkngchldmfpfaaGreatDoor
section
open Go.RowKit
set_option maxRecDepth 10000
attribute [local irreducible] EK EX ER EN EL ES EG an aR aU
variable {W:World} {F:SL} {X:Cx} {k:List KI} {σ:Env} {p pp g q:Option Addr} {ws cs pl:List Nat} {n np:Nat} {s:aT} {m:fo}
theorem aq.dN {H F' G:SL}{l:List Value}[r:bZ H q (Obj q 286 l) F'](e:l=kI s)(k:U F' G):U H (aq q s*G):=by
 rw[r.eq]
 exact aq.bS e k
abbrev wg (m:fo):fo:=⟨m.phase+1,m.id,m.fr,m.to,m.version,m.av⟩
def mK (cs:List Nat)(n:Nat)(s:aT):List Nat×aT:=
 if s.next=15 then(if cs.getD s.m.to 0=s.word then cs.set s.m.to (ll s.word (s.m.id:Int))else cs,{s with next:=13})
 else if s.next=18 then(if cs.getD s.m.fr 0=s.word then cs.set s.m.fr (nr s.word (s.m.id:Int))else cs,{s with next:=13})
 else if s.next=21 then(if cs.getD s.m.to 0=s.word then cs.set s.m.to (nr s.word (s.m.id:Int))else cs,{s with next:=13})
 else if s.next=16 then(if cs.getD n 0=kC s.m then cs.set n (kC (wg s.m))else cs,{s with next:=13})
 else if cs.getD n 0=kC s.m then(cs.set n (kC ⟨0,0,0,0,0,s.m.av+1⟩),{s with next:=0})else(cs,{s with next:=13})
structure Ox (n:Nat)(cs:List Nat)(s:aT):Prop where
 xC:cs.length=n+1
 n2:n≤1024
 next:s.next=15∨s.next=18∨s.next=21∨s.next=16∨s.next=22
 m:s.m.Ok
 ph:s.next=16→s.m.phase<3
 id:s.m.id<4095
 av:s.m.av<16384
 to:s.m.to<n
 fr:s.m.fr<n
 word:s.word<18446744073709551616
 free:s.next=15→dt s.word=false
 there:s.next=18∨s.next=21→0≤fj s.word (s.m.id:Int)
set_option maxHeartbeats 2000000 in
theorem YD (h:Ox n cs s):Spec Tryz.prog 201 [.pointer p,.pointer q] W (aq q s*(dL p pp g n*(cB g cs*F))) (fun _:Unit=> .tuple #[])
  (fun _=>aq q (mK cs n s).2*(dL p pp g n*(cB g (mK cs n s).1*F))):=by
 refine Spec.of Tryz.func201 rfl Tryz.ntmps201 rfl ?_
 have jD:=h.xC
 have lG:=h.n2
 have jI:=h.to
 have eh:=h.fr
 refine pS ?_
 refine kh (γ:=Option Addr) (fun _=>True) (fun x=>[(0,.pointer p),(1,.pointer q),(4,.pointer x),(5,.int .i64 (s.next:Int))]) (fun x=>Obj x 282 (ij s.m)*(aq q s*(dL p pp g n*(cB g cs*F)))) ?_ ?_
 ·refine aq.open ?_
  refine aa ?_;intros
  refine ay 99 (Obj q 286 (fi s)*1) rfl rfl rfl ?_
  refine ah ?_
  refine bD ?_;intros
  rename_i x
  refine aa ?_;intros
  exact dI x trivial ⟨rfl,rfl,rfl,rfl,trivial⟩ (U.sat (U.cons (aq.bS (by rfl) (ab))))
 intro x _
 obtain⟨t,ht⟩:∃t:aT,t={s with next:=13}:=⟨_,rfl⟩
 have uF:t.m.Ok:=by rw[ht];exact h.m
 have Eg:t.m.av<16384:=by rw[ht];exact h.av
 have gF:t.word<18446744073709551616:=by rw[ht];exact h.word
 have aex:t.m.id<4095:=by rw[ht];exact h.id
 have aey:t.m.to<n:=by rw[ht];exact jI
 have aew:t.m.fr<n:=by rw[ht];exact eh
 refine dc q (aq.open ?_)
 refine pS ?_
 refine kh (γ:=Unit) (fun _=>True) (fun _=>[(0,.pointer p),(1,.pointer q),(4,.pointer x),(5,.int .i64 (s.next:Int))]) (fun _=>Obj q 286 (fi t)*(Obj x 282 (ij t.m)*(dL p pp g n*(cB g cs*F)))) ?_ ?_
 ·refine aa ?_;intros
  exact dI () trivial ⟨rfl,rfl,rfl,rfl,trivial⟩ (U.sat (by rw[ht];exact ab))
 intro _ _
 rcases h.next with e|e|e|e|e
 ·
  have es:mK cs n s=(if cs.getD s.m.to 0=s.word then cs.set s.m.to (ll s.word (s.m.id:Int))else cs,{s with next:=13}):=by unfold mK;simp only[e];rfl
  rw[es,←ht]
  refine aa ?_;intros
  refine ay 99 (dL p pp g n*(Obj x 282 (ij t.m)*(Obj q 286 (fi t)*1))) rfl rfl rfl ?_
  refine ah ?_
  refine aw rfl rfl rfl rfl rfl (ME (id:=(t.m.id:Int)) gF (by omega) (by omega) (by rw[ht];exact h.free e)) (fun _=>ab) ?_
  intro _
  refine ah ?_
  refine aw rfl rfl rfl rfl rfl (Spec.aL g (ns g cs t.m.to t.word (ll t.word (t.m.id:Int)) (by omega) (by omega))) (fun _=>ab) ?_
  intro _
  refine ah ?_
  refine aa ?_;intros
  rw[show s.word=t.word by rw[ht],show s.m=t.m by rw[ht]]
  exact aE (aF rfl () rfl (U.sat (aq.dN (by rfl) (ab))))
 ·
  have es:mK cs n s=(if cs.getD s.m.fr 0=s.word then cs.set s.m.fr (nr s.word (s.m.id:Int))else cs,{s with next:=13}):=by unfold mK;simp only[e];rfl
  rw[es,←ht]
  refine aa ?_;intros
  refine ay 99 (dL p pp g n*(Obj x 282 (ij t.m)*(Obj q 286 (fi t)*1))) rfl rfl rfl ?_
  refine ah ?_
  refine aw rfl rfl rfl rfl rfl (Ch (id:=(t.m.id:Int)) gF (by rw[ht];exact h.there (.inl e))) (fun _=>ab) ?_
  intro _
  refine ah ?_
  refine aw rfl rfl rfl rfl rfl (Spec.aL g (ns g cs t.m.fr t.word (nr t.word (t.m.id:Int)) (by omega) (by omega))) (fun _=>ab) ?_
  intro _
  refine ah ?_
  refine aa ?_;intros
  rw[show s.word=t.word by rw[ht],show s.m=t.m by rw[ht]]
  exact aE (aF rfl () rfl (U.sat (aq.dN (by rfl) (ab))))
 ·
  have es:mK cs n s=(if cs.getD s.m.to 0=s.word then cs.set s.m.to (nr s.word (s.m.id:Int))else cs,{s with next:=13}):=by unfold mK;simp only[e];rfl
  rw[es,←ht]
  refine aa ?_;intros
  refine ay 99 (dL p pp g n*(Obj x 282 (ij t.m)*(Obj q 286 (fi t)*1))) rfl rfl rfl ?_
  refine ah ?_
  refine aw rfl rfl rfl rfl rfl (Ch (id:=(t.m.id:Int)) gF (by rw[ht];exact h.there (.inr e))) (fun _=>ab) ?_
  intro _
  refine ah ?_
  refine aw rfl rfl rfl rfl rfl (Spec.aL g (ns g cs t.m.to t.word (nr t.word (t.m.id:Int)) (by omega) (by omega))) (fun _=>ab) ?_
  intro _
  refine ah ?_
  refine aa ?_;intros
  rw[show s.word=t.word by rw[ht],show s.m=t.m by rw[ht]]
  exact aE (aF rfl () rfl (U.sat (aq.dN (by rfl) (ab))))
 ·
  have es:mK cs n s=(if cs.getD n 0=kC t.m then cs.set n (kC (wg t.m))else cs,t):=by unfold mK;simp only[e];rw[ht];rfl
  rw[es]
  have Es:t.m.phase<3:=by rw[ht];exact h.ph e
  have T4:fo.Ok (wg t.m):=by rw[ht];exact⟨by have:=h.ph e;dsimp only;omega,h.m.id,h.m.fr,h.m.to,h.m.version,h.m.av⟩
  refine aa ?_;intros
  rename_i y
  rw[show(t.m.phase:Int)+1=((t.m.phase+1:Nat):Int)by omega]
  refine ay 99 (dL p pp g n*(Obj x 282 (ij t.m)*(Obj y 282 (ij (wg t.m))*1))) rfl rfl rfl ?_
  refine ah ?_
  refine aw rfl rfl rfl rfl rfl (yN uF) (fun _=>ab) ?_
  intro _
  refine ah ?_
  refine aw rfl rfl rfl rfl rfl (yN (m:=(wg t.m)) T4) (fun _=>ab) ?_
  intro _
  refine ah ?_
  refine aw rfl rfl rfl rfl rfl (Spec.aL g (ns g cs n (kC t.m) (kC (wg t.m)) (by omega) (by omega))) (fun _=>ab) ?_
  intro _
  refine ah ?_
  refine aa ?_;intros
  exact aE (aF rfl () rfl (U.sat (aq.dN (by rfl) (ab))))
 ·
  have es:mK cs n s=if cs.getD n 0=kC t.m then(cs.set n (kC ⟨0,0,0,0,0,t.m.av+1⟩),{t with next:=0})else(cs,t):=by unfold mK;simp only[e];rw[ht];rfl
  rw[es]
  refine aa ?_;intros
  refine ay 99 (dL p pp g n*(Obj x 282 (ij t.m)*1)) rfl rfl rfl ?_
  refine ah ?_
  refine aw rfl rfl rfl rfl rfl (yN uF) (fun _=>ab) ?_
  intro _
  refine ah ?_
  refine aw rfl rfl rfl rfl rfl (V1 Eg) (fun _=>ab) ?_
  intro _
  refine ah ?_
  refine aw rfl rfl rfl rfl rfl (Spec.aL g (ns g cs n (kC t.m) (kC ⟨0,0,0,0,0,t.m.av+1⟩) (by omega) (by omega))) (fun _=>ab) ?_
  intro _
  refine ah ?_
  by_cases hu:cs.getD n 0=kC t.m
  ·rw[if_pos hu,if_pos hu,decide_eq_true hu]
   refine aa ?_;intros
   exact aE (aF rfl () rfl (U.sat (aq.bS (by rfl) (ab))))
  ·rw[if_neg hu,if_neg hu,decide_eq_false hu]
   refine aa ?_;intros
   refine aE (aF rfl () rfl (U.sat ?_))
   rw[show ∀A B C:SL,A*(B*C)=B*(A*C)from fun A B C=>by ac_rfl]
   exact aq.bS (by rfl) (ab)
end
section
open Go.RowKit
set_option maxRecDepth 10000
attribute [local irreducible] EK EX ER EN EL ES EG an aR aU
variable {W:World} {F:SL} {X:Cx} {k:List KI} {σ:Env} {p pp g q:Option Addr} {ws cs pl:List Nat} {n np:Nat} {s:aT} {m:fo}
theorem QW:mK cs n s=xB n cs s:=rfl
theorem drop_eq:iF cs s=rk cs s:=rfl
theorem qU.tm (h:qU n np m)(hn:n≤1024)(cU:np≤3072):fo.Ok m:=⟨by have:=h.phase;omega,by have:=h.id;omega,by have:=h.fr;omega,by have:=h.to;omega,h.version,by have:=h.av;omega⟩
set_option maxHeartbeats 4000000 in
theorem TI (hc:dT n np cs)(hp:cy np pl)(h:br n np s)(sU:13≤s.next)(AA:s.next≤22):Spec Tryz.prog 159 [.pointer p,.pointer q] W (aq q s*(aB p pp n cs*(aG pp pl*F))) (fun _:Unit=> .tuple #[])
  (fun _=>aq q (gS pl n cs s).2*(aB p pp n (gS pl n cs s).1*(aG pp pl*F))):=by
 refine Spec.of Tryz.func159 rfl Tryz.ntmps159 rfl ?_
 have jD:=hc.len
 have lG:=hc.n2
 have jX:=hc.j7
 have hm:=h.m
 have AV:=hm.id
 have Eg:=hm.to
 have Ef:=hm.fr
 have qx:=hm.version
 have gx:=h.word
 have jI:=hc.w s.m.to
 have eh:=hc.w s.m.fr
 refine dc p (aB.open fun g=> ?_)
 simp only[lU]
 refine pS ?_
 refine kh (γ:=Option Addr) (fun _=>True) (fun x=>[(0,.pointer p),(1,.pointer q),(4,.pointer x)]) (fun x=>Obj x 282 (ij s.m)*(aq q s*(dL p pp g n*(cB g cs*(aG pp pl*F))))) ?_ ?_
 ·refine dc q (aq.open ?_)
  refine aa ?_;intros
  rename_i x
  exact dI x trivial ⟨rfl,rfl,rfl,trivial⟩ (U.sat (U.cons (aq.dN (by rfl) (ab))))
 intro x _
 have jo:s.next=13∨s.next=14∨s.next=17∨s.next=19∨s.next=20∨(s.next=15∨s.next=18∨s.next=21∨s.next=16∨s.next=22):=by omega
 rcases jo with e|e|e|e|e|e
 ·have es:gS pl n cs s=(cs,Dq cs n s):=by unfold gS;rw[if_pos e];rfl
  rw[es]
  refine dc q (aq.open ?_)
  refine aa ?_;intros
  refine af rfl (Spec.pre (Sb jD lG hc.w (p:=p) (q:=q) (g:=g) (pp:=pp) (s:=s) (F:=Obj x 282 (ij s.m)*(aG pp pl*F))) (aq.dN (by rfl) (ab))) ?_
  intro _
  refine aa ?_;intros
  exact aE (aF rfl () rfl (U.sat (U.cons (U.trans (ab) (aB.shut (g:=g))))))
 ·refine dc q (aq.open ?_)
  refine aa ?_;intros
  refine ay 10 (dL p pp g n*(Obj x 282 (ij s.m)*(Obj q 286 (fi s)*1))) rfl rfl rfl ?_
  refine ah ?_
  refine aw rfl rfl rfl rfl rfl (Spec.aL g (fM g cs s.m.to (by omega) (by omega))) (fun _=>ab) ?_
  intro _
  refine ah ?_
  refine bD ?_;intros
  obtain⟨t,ht⟩:∃t:aT,t={s with word:=cs.getD s.m.to 0}:=⟨_,rfl⟩
  have gF:t.word<18446744073709551616:=by rw[ht];exact jI
  refine iQ (G:=Obj q 286 (fi t)*(Obj x 282 (ij s.m)*(dL p pp g n*(cB g cs*(aG pp pl*F))))) (by rw[ht];exact ab) ?_
  refine aa ?_;intros
  refine ay 99 (Obj x 282 (ij s.m)*(Obj q 286 (fi t)*1)) rfl rfl rfl ?_
  refine ah ?_
  refine aw rfl rfl rfl rfl rfl (vc (s.m.id:Int) gF) (fun _=>ab) ?_
  intro _
  by_cases hw:0≤fj t.word (s.m.id:Int)
  ·have es:gS pl n cs s=(cs,{t with next:=16}):=by
    rw[ht]at hw ⊢
    unfold gS;simp only[e];rw[if_pos hw];rfl
   rw[es]
   refine ah ?_
   refine aa ?_;intros
   exact aE (aF rfl () rfl (U.sat (aq.dN (by rfl) (U.trans (ab) (aB.shut (g:=g))))))
  ·refine ah ?_
   refine aa ?_;intros
   refine ay 99 (Obj x 282 (ij s.m)*(Obj q 286 (fi t)*1)) rfl rfl rfl ?_
   refine ah ?_
   refine aw rfl rfl rfl rfl rfl (Mp gF) (fun _=>ab) ?_
   intro _
   by_cases hv:t.word/281474976710656=s.m.version
   ·have es:gS pl n cs s=(cs,{t with next:=15}):=by
     rw[ht]at hw hv ⊢
     unfold gS;simp only[e];rw[if_neg hw,if_pos hv];rfl
    rw[es]
    refine ah ?_
    refine aa ?_;intros
    exact aE (aF rfl () rfl (U.sat (aq.dN (by rfl) (U.trans (ab) (aB.shut (g:=g))))))
   ·have es:gS pl n cs s=(cs,{t with next:=22}):=by
     rw[ht]at hw hv ⊢
     unfold gS;simp only[e];rw[if_neg hw,if_neg hv];rfl
    rw[es]
    refine ah ?_
    refine aa ?_;intros
    exact aE (aF rfl () rfl (U.sat (aq.dN (by rfl) (U.trans (ab) (aB.shut (g:=g))))))
 ·have es:gS pl n cs s=(cs,u5 s (cs.getD s.m.fr 0) 18 16):=by unfold gS;simp only[e];rfl
  rw[es]
  refine dc q (aq.open ?_)
  refine aa ?_;intros
  refine ay 8 (dL p pp g n*(Obj x 282 (ij s.m)*(Obj q 286 (fi s)*1))) rfl rfl rfl ?_
  refine ah ?_
  refine aw rfl rfl rfl rfl rfl (Spec.aL g (fM g cs s.m.fr (by omega) (by omega))) (fun _=>ab) ?_
  intro _
  refine ah ?_
  refine lp rfl rfl rfl rfl (Spec.aL q (Spec.pre (L5 (q:=q) (s:=s) (yes:=18) (no:=16) (u:=cs.getD s.m.fr 0) eh) (aq.bS (by rfl) (U.refl _)))) ?_
  intro _
  refine ah ?_
  refine aa ?_;intros
  exact aE (aF rfl () rfl (U.sat (U.cons (U.trans (ab) (aB.shut (g:=g))))))
 ·refine dc q (aq.open ?_)
  refine aa ?_;intros
  obtain⟨t,ht⟩:∃t:aT,t={s with next:=20}:=⟨_,rfl⟩
  have J3:t.m=s.m:=by rw[ht]
  refine iQ (G:=Obj q 286 (fi t)*(Obj x 282 (ij s.m)*(dL p pp g n*(cB g cs*(aG pp pl*F))))) (by rw[ht];exact ab) ?_
  refine kh (γ:=Option Addr) (fun _=>True) (fun y=>[(0,.pointer p),(1,.pointer q),(4,.pointer x),(5,.pointer y)]) (fun y=>Obj y 117 (wL (bH.of (pl.getD (2*s.m.id) 0)) [])*(Obj q 286 (fi t)*(Obj x 282 (ij s.m)*(dL p pp g n*(cB g cs*(aG pp pl*F)))))) ?_ ?_
  ·refine aa ?_;intros
   refine ay 8 (dL p pp g n*(Obj x 282 (ij s.m)*1)) rfl rfl rfl ?_
   refine ah ?_
   refine qS (i:=6) (j:=7) (su rfl rfl rfl rfl (Spec.aL pp (zJ hp.len jX AV hp.w)) (fun _=>ab) ?_) (tO rfl rfl (sF rfl) rfl (fun _=>ab) ?_)
   ·intro _
    refine bD ?_;intros
    rename_i y
    refine aa ?_;intros
    exact dI y trivial ⟨rfl,rfl,rfl,rfl,trivial⟩ (U.sat (ab))
   ·intro y
    refine aw rfl rfl rfl rfl rfl (Spec.aL pp (zJ hp.len jX AV hp.w)) (fun _=>ab) ?_
    intro _
    refine bD ?_;intros
    refine aa ?_;intros
    exact dI y trivial ⟨rfl,rfl,rfl,rfl,trivial⟩ (U.sat (ab))
  intro y _
  have es:gS pl n cs s=(cs,if(bH.of (pl.getD (2*s.m.id) 0)).st=1∨(bH.of (pl.getD (2*s.m.id) 0)).st=2 then {t with next:=22}else t):=by
   rw[ht]
   unfold gS
   rw[if_neg (by omega),if_neg (by omega),if_neg (by omega),if_pos e]
   split<;>rfl
  rw[es]
  generalize bH.of (pl.getD (2*s.m.id) 0)=w at*
  by_cases w1:w.st=1
  ·refine aa ?_;intros
   rw[if_pos (.inl w1)]
   exact aE (aF rfl () rfl (U.sat (aq.dN (by rfl) (U.trans (ab) (aB.shut (g:=g))))))
  ·by_cases w2:w.st=2
   ·refine aa ?_;intros
    rw[if_pos (.inr w2)]
    exact aE (aF rfl () rfl (U.sat (aq.dN (by rfl) (U.trans (ab) (aB.shut (g:=g))))))
   ·refine aa ?_;intros
    rw[if_neg (fun e=>e.elim w1 w2)]
    exact aE (aF rfl () rfl (U.sat (aq.dN (by rfl) (U.trans (ab) (aB.shut (g:=g))))))
 ·have es:gS pl n cs s=(cs,u5 s (cs.getD s.m.to 0) 21 22):=by unfold gS;simp only[e];rfl
  rw[es]
  refine dc q (aq.open ?_)
  refine aa ?_;intros
  refine ay 8 (dL p pp g n*(Obj x 282 (ij s.m)*(Obj q 286 (fi s)*1))) rfl rfl rfl ?_
  refine ah ?_
  refine aw rfl rfl rfl rfl rfl (Spec.aL g (fM g cs s.m.to (by omega) (by omega))) (fun _=>ab) ?_
  intro _
  refine ah ?_
  refine lp rfl rfl rfl rfl (Spec.aL q (Spec.pre (L5 (q:=q) (s:=s) (yes:=21) (no:=22) (u:=cs.getD s.m.to 0) jI) (aq.bS (by rfl) (U.refl _)))) ?_
  intro _
  refine ah ?_
  refine aa ?_;intros
  exact aE (aF rfl () rfl (U.sat (U.cons (U.trans (ab) (aB.shut (g:=g))))))
 ·have es:gS pl n cs s=mK cs n s:=by rw[QW];unfold gS;rw[if_neg (by omega),if_neg (by omega),if_neg (by omega),if_neg (by omega),if_neg (by omega)]
  rw[es]
  refine dc q (aq.open ?_)
  rcases e with e|e|e|e|e
  all_goals
   refine aa ?_;intros
   refine af rfl (Spec.pre (YD (p:=p) (q:=q) (g:=g) (pp:=pp) (s:=s) (F:=Obj x 282 (ij s.m)*(aG pp pl*F)) ⟨jD,lG,by omega,hm.tm lG jX,fun e=>h.ph (by omega) (by omega),by omega,hm.av,Eg,Ef,gx,h.free,h.there⟩) (aq.dN (by rfl) (ab))) ?_
   intro _
   refine aa ?_;intros
   exact aE (aF rfl () rfl (U.sat (U.cons (U.trans (ab) (aB.shut (g:=g))))))
end
section
open Go.RowKit
set_option maxRecDepth 10000
attribute [local irreducible] EK EX ER EN EL ES EG an aR aU
variable {W:World} {F:SL} {X:Cx} {k:List KI} {σ:Env} {p pp g q:Option Addr} {ws cs pl:List Nat} {n np:Nat} {s:aT} {m:fo}
theorem sR {id:Int}{fr to u:Nat}(h0:0≤id)(hu:u<18446744073709551616)(hs:s.still<18446744073709551616):Spec Tryz.prog 206 [.pointer q,.int .i64 id,.int .i64 (fr:Int),.int .i64 (to:Int),.int .u64 (u:Int)] W (aq q s*F) (fun _:Unit=> .tuple #[]) (fun _=>aq q (mO s id fr to u)*F):=by
 have h:=S3 (W:=W) (F:=F) (q:=q) (s:=s) (id:=id.toNat) (fr:=fr) (to:=to) hu hs
 rw[show((id.toNat:Nat):Int)=id by omega]at h
 exact h
theorem td {id:Int}{bk:Nat}(hf:fV (n:Int)=true)(hp:cy np pl)(cU:np≤3072)(h0:0≤id)(h1:id<np):Spec Tryz.prog 203 [.pointer p,.int .i64 id,.int .i64 (bk:Int)] W (dL p pp g n*(aG pp pl*F)) (fun _:Unit=> .int .i64 ((j8 pl n id bk:Nat):Int)) (fun _=>dL p pp g n*(aG pp pl*F)):=by
 have h:=WX (W:=W) (F:=F) (p:=p) (pp:=pp) (g:=g) (pl:=pl) (n:=n) (id:=id.toNat) (bk:=bk) hf hp.len cU (by omega) hp.w
 rw[show((id.toNat:Nat):Int)=id by omega]at h
 exact h
theorem BY (s:aT)(x:Nat):(s.v=0→s.jM s.v x={s with o0:=x})∧(s.v=1→s.jM s.v x={s with o1:=x})∧(s.v=2→s.jM s.v x={s with o2:=x})∧(s.v=3→s.jM s.v x={s with o3:=x}):=by
 unfold aT.jM
 refine⟨fun e=> ?_,fun e=> ?_,fun e=> ?_,fun e=> ?_⟩<;>rw[e]<;>rfl
theorem BX (s:aT)(x:Nat):(s.v=0→s.iM s.v x={s with g0:=x})∧(s.v=1→s.iM s.v x={s with g1:=x})∧(s.v=2→s.iM s.v x={s with g2:=x})∧(s.v=3→s.iM s.v x={s with g3:=x}):=by
 unfold aT.iM
 refine⟨fun e=> ?_,fun e=> ?_,fun e=> ?_,fun e=> ?_⟩<;>rw[e]<;>rfl
theorem oM (s:aT):(s.v=0→s.dw s.v=s.o0)∧(s.v=1→s.dw s.v=s.o1)∧(s.v=2→s.dw s.v=s.o2)∧(s.v=3→s.dw s.v=s.o3):=by
 unfold aT.dw
 refine⟨fun e=> ?_,fun e=> ?_,fun e=> ?_,fun e=> ?_⟩<;>rw[e]<;>rfl
theorem sQ (s:aT):(s.v=0→s.eJ s.v=s.g0)∧(s.v=1→s.eJ s.v=s.g1)∧(s.v=2→s.eJ s.v=s.g2)∧(s.v=3→s.eJ s.v=s.g3):=by
 unfold aT.eJ
 refine⟨fun e=> ?_,fun e=> ?_,fun e=> ?_,fun e=> ?_⟩<;>rw[e]<;>rfl
set_option maxHeartbeats 4000000 in
theorem Sc (hc:dT n np cs)(h:br n np s)(hd:s.done=false)(e:s.next=11):Spec Tryz.prog 207 [.pointer p,.pointer q] W (aq q s*(dL p pp g n*(cB g cs*F))) (fun _:Unit=> .tuple #[])
  (fun _=>aq q (cu pl n cs s).2*(dL p pp g n*(cB g cs*F))):=by
 refine Spec.of Tryz.func207 rfl Tryz.ntmps207 rfl ?_
 have jD:=hc.len
 have lG:=hc.n2
 have aeb:=h.cC
 have hu:=hc.w s.cC
 have eK:=h.still
 obtain⟨hv,iv⟩:=h.vu hd
 have ky:=h.dw s.v hv
 obtain⟨gU,eh⟩:=h.eJ s.v hv
 have jF:=jT.1 (h.mc (.inr e) s.v hv) s.u iv
 refine dc q (aq.open ?_)
 refine aa ?_;intros
 refine ay 99 (dL p pp g n*(Obj q 286 (fi s)*1)) rfl rfl rfl ?_
 refine ah ?_
 refine aw rfl rfl rfl rfl rfl (Spec.aL g (fM g cs s.cC (by omega) (by omega))) (fun _=>ab) ?_
 intro _
 refine ah ?_
 have es:cu pl n cs s=(cs,if dt (cs.getD s.cC 0)=false then mO s (bV (s.eJ s.v) s.u) (s.dw s.v) s.cC (cs.getD s.cC 0)
   else if s.u+1=4 then(if s.v+1=4 then jS {s with v:=4,u:=0,next:=10} 9 else {s with v:=s.v+1,u:=0,next:=10})
   else {s with u:=s.u+1,next:=10}):=by
  unfold cu
  rw[if_neg (by omega),if_neg (by omega),if_neg (by omega),if_neg (by omega),if_neg (by omega),if_pos e]
 rw[es]
 refine aa ?_;intros
 refine af rfl (vK hu) ?_
 intro _
 cases rD:dt (cs.getD s.cC 0)with
 |false=>
  rw[if_pos rfl]
  rcases four hv with ev|ev|ev|ev
  ·rw[(sQ s).1 ev]at gU jF ⊢
   rw[(oM s).1 ev]at ky ⊢
   rw[ev]
   refine aa ?_;intros
   refine ay 29 (Obj q 286 (Value.int .i64 (s.kind:Int)::Value.int .i64 (s.f1:Int)::Value.int .u32 (s.f2:Int)::Value.int .u16 (s.f3:Int)::Value.int .i64 s.id::Value.int .i64 (s.a:Int)::Value.int .i64 (s.b:Int)::Value.int .i64 (s.next:Int)::Value.int .u64 (s.first:Int)::Value.int .u64 (s.word:Int)::Value.int .i64 (s.at_:Int)::Value.bool s.half::Value.int .i64 (s.seen.st:Int)::Value.int .i64 (s.seen.gen:Int)::Value.int .i64 (s.seen.tr:Int)::Value.int .i64 (s.seen.sn:Int)::Value.int .u64 (s.still:Int)::Value.int .i64 (s.m.phase:Int)::Value.int .i64 (s.m.id:Int)::Value.int .i64 (s.m.fr:Int)::Value.int .i64 (s.m.to:Int)::Value.int .i64 (s.m.version:Int)::Value.int .i64 (s.m.av:Int)::Value.int .i64 ((0:Nat):Int)::Value.int .i64 (s.u:Int)::Value.int .i64 (s.o0:Int)::Value.int .i64 (s.o1:Int)::Value.int .i64 (s.o2:Int)::Value.int .i64 (s.o3:Int)::Value.int .u64 (s.g0:Int)::Value.int .u64 (s.g1:Int)::Value.int .u64 (s.g2:Int)::Value.int .u64 (s.g3:Int)::Value.int .i64 (s.cC:Int)::Value.bool s.second::Value.int .i64 s.found::Value.int .i64 (s.aP.st:Int)::Value.int .i64 (s.aP.gen:Int)::Value.int .i64 (s.aP.tr:Int)::Value.int .i64 (s.aP.sn:Int)::Value.int .i64 (s.end_:Int)::Value.bool s.done::[])*1) rfl rfl rfl ?_
   refine ah ?_
   refine aw rfl rfl rfl rfl rfl (js gU iv) (fun _=>ab) ?_
   intro _
   refine ah ?_
   refine lp rfl rfl rfl rfl (Spec.aL q (Spec.pre (sR (q:=q) (s:=s) jF hu eK) (aq.bS (by unfold kI;rw[ev]) (U.refl _)))) ?_
   intro _
   refine ah ?_
   refine aa ?_;intros
   exact ae (dm rfl () rfl (U.sat (U.cons (ab))))
  ·rw[(sQ s).2.1 ev]at gU jF ⊢
   rw[(oM s).2.1 ev]at ky ⊢
   rw[ev]
   refine aa ?_;intros
   refine ay 29 (Obj q 286 (Value.int .i64 (s.kind:Int)::Value.int .i64 (s.f1:Int)::Value.int .u32 (s.f2:Int)::Value.int .u16 (s.f3:Int)::Value.int .i64 s.id::Value.int .i64 (s.a:Int)::Value.int .i64 (s.b:Int)::Value.int .i64 (s.next:Int)::Value.int .u64 (s.first:Int)::Value.int .u64 (s.word:Int)::Value.int .i64 (s.at_:Int)::Value.bool s.half::Value.int .i64 (s.seen.st:Int)::Value.int .i64 (s.seen.gen:Int)::Value.int .i64 (s.seen.tr:Int)::Value.int .i64 (s.seen.sn:Int)::Value.int .u64 (s.still:Int)::Value.int .i64 (s.m.phase:Int)::Value.int .i64 (s.m.id:Int)::Value.int .i64 (s.m.fr:Int)::Value.int .i64 (s.m.to:Int)::Value.int .i64 (s.m.version:Int)::Value.int .i64 (s.m.av:Int)::Value.int .i64 ((1:Nat):Int)::Value.int .i64 (s.u:Int)::Value.int .i64 (s.o0:Int)::Value.int .i64 (s.o1:Int)::Value.int .i64 (s.o2:Int)::Value.int .i64 (s.o3:Int)::Value.int .u64 (s.g0:Int)::Value.int .u64 (s.g1:Int)::Value.int .u64 (s.g2:Int)::Value.int .u64 (s.g3:Int)::Value.int .i64 (s.cC:Int)::Value.bool s.second::Value.int .i64 s.found::Value.int .i64 (s.aP.st:Int)::Value.int .i64 (s.aP.gen:Int)::Value.int .i64 (s.aP.tr:Int)::Value.int .i64 (s.aP.sn:Int)::Value.int .i64 (s.end_:Int)::Value.bool s.done::[])*1) rfl rfl rfl ?_
   refine ah ?_
   refine aw rfl rfl rfl rfl rfl (js gU iv) (fun _=>ab) ?_
   intro _
   refine ah ?_
   refine lp rfl rfl rfl rfl (Spec.aL q (Spec.pre (sR (q:=q) (s:=s) jF hu eK) (aq.bS (by unfold kI;rw[ev]) (U.refl _)))) ?_
   intro _
   refine ah ?_
   refine aa ?_;intros
   exact ae (dm rfl () rfl (U.sat (U.cons (ab))))
  ·rw[(sQ s).2.2.1 ev]at gU jF ⊢
   rw[(oM s).2.2.1 ev]at ky ⊢
   rw[ev]
   refine aa ?_;intros
   refine ay 29 (Obj q 286 (Value.int .i64 (s.kind:Int)::Value.int .i64 (s.f1:Int)::Value.int .u32 (s.f2:Int)::Value.int .u16 (s.f3:Int)::Value.int .i64 s.id::Value.int .i64 (s.a:Int)::Value.int .i64 (s.b:Int)::Value.int .i64 (s.next:Int)::Value.int .u64 (s.first:Int)::Value.int .u64 (s.word:Int)::Value.int .i64 (s.at_:Int)::Value.bool s.half::Value.int .i64 (s.seen.st:Int)::Value.int .i64 (s.seen.gen:Int)::Value.int .i64 (s.seen.tr:Int)::Value.int .i64 (s.seen.sn:Int)::Value.int .u64 (s.still:Int)::Value.int .i64 (s.m.phase:Int)::Value.int .i64 (s.m.id:Int)::Value.int .i64 (s.m.fr:Int)::Value.int .i64 (s.m.to:Int)::Value.int .i64 (s.m.version:Int)::Value.int .i64 (s.m.av:Int)::Value.int .i64 ((2:Nat):Int)::Value.int .i64 (s.u:Int)::Value.int .i64 (s.o0:Int)::Value.int .i64 (s.o1:Int)::Value.int .i64 (s.o2:Int)::Value.int .i64 (s.o3:Int)::Value.int .u64 (s.g0:Int)::Value.int .u64 (s.g1:Int)::Value.int .u64 (s.g2:Int)::Value.int .u64 (s.g3:Int)::Value.int .i64 (s.cC:Int)::Value.bool s.second::Value.int .i64 s.found::Value.int .i64 (s.aP.st:Int)::Value.int .i64 (s.aP.gen:Int)::Value.int .i64 (s.aP.tr:Int)::Value.int .i64 (s.aP.sn:Int)::Value.int .i64 (s.end_:Int)::Value.bool s.done::[])*1) rfl rfl rfl ?_
   refine ah ?_
   refine aw rfl rfl rfl rfl rfl (js gU iv) (fun _=>ab) ?_
   intro _
   refine ah ?_
   refine lp rfl rfl rfl rfl (Spec.aL q (Spec.pre (sR (q:=q) (s:=s) jF hu eK) (aq.bS (by unfold kI;rw[ev]) (U.refl _)))) ?_
   intro _
   refine ah ?_
   refine aa ?_;intros
   exact ae (dm rfl () rfl (U.sat (U.cons (ab))))
  ·rw[(sQ s).2.2.2 ev]at gU jF ⊢
   rw[(oM s).2.2.2 ev]at ky ⊢
   rw[ev]
   refine aa ?_;intros
   refine ay 29 (Obj q 286 (Value.int .i64 (s.kind:Int)::Value.int .i64 (s.f1:Int)::Value.int .u32 (s.f2:Int)::Value.int .u16 (s.f3:Int)::Value.int .i64 s.id::Value.int .i64 (s.a:Int)::Value.int .i64 (s.b:Int)::Value.int .i64 (s.next:Int)::Value.int .u64 (s.first:Int)::Value.int .u64 (s.word:Int)::Value.int .i64 (s.at_:Int)::Value.bool s.half::Value.int .i64 (s.seen.st:Int)::Value.int .i64 (s.seen.gen:Int)::Value.int .i64 (s.seen.tr:Int)::Value.int .i64 (s.seen.sn:Int)::Value.int .u64 (s.still:Int)::Value.int .i64 (s.m.phase:Int)::Value.int .i64 (s.m.id:Int)::Value.int .i64 (s.m.fr:Int)::Value.int .i64 (s.m.to:Int)::Value.int .i64 (s.m.version:Int)::Value.int .i64 (s.m.av:Int)::Value.int .i64 ((3:Nat):Int)::Value.int .i64 (s.u:Int)::Value.int .i64 (s.o0:Int)::Value.int .i64 (s.o1:Int)::Value.int .i64 (s.o2:Int)::Value.int .i64 (s.o3:Int)::Value.int .u64 (s.g0:Int)::Value.int .u64 (s.g1:Int)::Value.int .u64 (s.g2:Int)::Value.int .u64 (s.g3:Int)::Value.int .i64 (s.cC:Int)::Value.bool s.second::Value.int .i64 s.found::Value.int .i64 (s.aP.st:Int)::Value.int .i64 (s.aP.gen:Int)::Value.int .i64 (s.aP.tr:Int)::Value.int .i64 (s.aP.sn:Int)::Value.int .i64 (s.end_:Int)::Value.bool s.done::[])*1) rfl rfl rfl ?_
   refine ah ?_
   refine aw rfl rfl rfl rfl rfl (js gU iv) (fun _=>ab) ?_
   intro _
   refine ah ?_
   refine lp rfl rfl rfl rfl (Spec.aL q (Spec.pre (sR (q:=q) (s:=s) jF hu eK) (aq.bS (by unfold kI;rw[ev]) (U.refl _)))) ?_
   intro _
   refine ah ?_
   refine aa ?_;intros
   exact ae (dm rfl () rfl (U.sat (U.cons (ab))))
 |true=>
  rw[if_neg (by decide)]
  by_cases h4:s.u+1=4
  ·rw[if_pos h4]
   have eu:(s.u:Int)+1=4:=by omega
   by_cases h5:s.v+1=4
   ·rw[if_pos h5]
    refine aa ?_;intros
    have ev:(s.v:Int)+1=((4:Nat):Int):=by omega
    rw[ev]
    refine af rfl (Spec.pre (ug (p:=q) (e:=9) (s:={s with v:=4,u:=0,next:=10})) (aq.bS (by rfl) (U.refl _))) ?_
    intro _
    refine aa ?_;intros
    exact aE (aF rfl () rfl (U.sat (U.cons (ab))))
   ·rw[if_neg h5]
    refine aa ?_;intros
    exact aE (aF rfl () rfl (U.sat (aq.dN (by unfold kI;dsimp only;rw[show(s.v:Int)+1=((s.v+1:Nat):Int)by omega];rfl) (ab))))
  ·rw[if_neg h4]
   refine aa ?_;intros
   exact aE (aF rfl () rfl (U.sat (aq.dN (by unfold kI;dsimp only;rw[show(s.u:Int)+1=((s.u+1:Nat):Int)by omega];rfl) (ab))))
end
section
open Go.RowKit
set_option maxRecDepth 10000
attribute [local irreducible] EK EX ER EN EL ES EG an aR aU
variable {W:World} {F:SL} {X:Cx} {k:List KI} {σ:Env} {p pp g q:Option Addr} {ws cs pl:List Nat} {n np:Nat} {s:aT} {m:fo}
set_option maxHeartbeats 2000000 in
theorem Rt (hf:fV (n:Int)=true)(hc:dT n np cs)(hp:cy np pl)(h:br n np s)(hd:s.done=false)(e:s.next=6):Spec Tryz.prog 160 [.pointer p,.pointer q] W (aq q s*(aB p pp n cs*(aG pp pl*F))) (fun _:Unit=> .tuple #[])
  (fun _=>aq q (cu pl n cs s).2*(aB p pp n (cu pl n cs s).1*(aG pp pl*F))):=by
 refine Spec.of Tryz.func160 rfl Tryz.ntmps160 rfl ?_
 have jD:=hc.len
 have lG:=hc.n2
 have jX:=hc.j7
 have ha:=h.a
 have eK:=h.still
 have gV:=hc.w n
 have mT:=h.first
 have nQ:=h.il (by omega) (by omega)
 have mS:=jT.1 nQ
 obtain⟨hv,iv⟩:=h.vu hd
 refine dc p (aB.open fun g=> ?_)
 simp only[lU]
 refine dc q (aq.open ?_)
 have es:cu pl n cs s=(cs,{s with still:=cs.getD n 0,m:=mu (cs.getD n 0),next:=if(mu (cs.getD n 0)).phase≠0 then 13 else 7}):=by unfold cu;rw[if_pos e];rfl
 rw[es]
 refine aa ?_;intros
 refine ay 99 (dL p pp g n*1) rfl rfl rfl ?_
 refine ah ?_
 refine aw rfl rfl rfl rfl rfl (Spec.aL g (fM g cs n (by omega) (by omega))) (fun _=>ab) ?_
 intro _
 refine ah ?_
 refine aa ?_;intros
 refine af rfl (yO gV) ?_
 intro _
 generalize mu (cs.getD n 0)=m
 by_cases Es:m.phase=0
 ·rw[if_neg (fun z=>z Es)]
  refine aa ?_;intros
  exact aE (aF rfl () rfl (U.sat (aq.dN (by rfl) (U.trans (ab) (aB.shut (g:=g))))))
 ·rw[if_pos Es]
  refine aa ?_;intros
  exact aE (aF rfl () rfl (U.sat (aq.dN (by rfl) (U.trans (ab) (aB.shut (g:=g))))))
set_option maxHeartbeats 2000000 in
theorem Ru (hf:fV (n:Int)=true)(hc:dT n np cs)(hp:cy np pl)(h:br n np s)(hd:s.done=false)(e:s.next=7):Spec Tryz.prog 160 [.pointer p,.pointer q] W (aq q s*(aB p pp n cs*(aG pp pl*F))) (fun _:Unit=> .tuple #[])
  (fun _=>aq q (cu pl n cs s).2*(aB p pp n (cu pl n cs s).1*(aG pp pl*F))):=by
 refine Spec.of Tryz.func160 rfl Tryz.ntmps160 rfl ?_
 have jD:=hc.len
 have lG:=hc.n2
 have jX:=hc.j7
 have ha:=h.a
 have eK:=h.still
 have gV:=hc.w n
 have mT:=h.first
 have nQ:=h.il (by omega) (by omega)
 have mS:=jT.1 nQ
 obtain⟨hv,iv⟩:=h.vu hd
 refine dc p (aB.open fun g=> ?_)
 simp only[lU]
 refine dc q (aq.open ?_)
 have es:cu pl n cs s=(cs,{s with v:=0,u:=0,next:=if cs.getD s.a 0≠s.first then 0 else 8}):=by unfold cu;rw[if_neg (by omega),if_pos e]
 rw[es]
 refine aa ?_;intros
 obtain⟨t,ht⟩:∃t:aT,t={s with v:=0,u:=0,next:=8}:=⟨_,rfl⟩
 have Ba:t.a=s.a:=by rw[ht]
 have J2:t.first=s.first:=by rw[ht]
 have ex:({s with v:=0,u:=0,next:=if cs.getD s.a 0≠s.first then 0 else 8}:aT)={t with next:=if cs.getD t.a 0≠t.first then 0 else 8}:=by rw[ht]
 rw[ex]
 refine iQ (G:=Obj q 286 (fi t)*(dL p pp g n*(cB g cs*(aG pp pl*F)))) (by rw[ht];exact ab) ?_
 refine ay 99 (dL p pp g n*(Obj q 286 (fi t)*1)) rfl rfl rfl ?_
 refine ah ?_
 refine aw rfl rfl rfl rfl rfl (Spec.aL g (fM g cs t.a (by omega) (by omega))) (fun _=>ab) ?_
 intro _
 have R9:({t with next:=8}:aT)=t:=by rw[ht]
 by_cases hu:cs.getD t.a 0=t.first
 ·rw[if_neg (fun z=>z hu),R9]
  refine ah ?_
  refine aa ?_;intros
  exact aE (aF rfl () rfl (U.sat (aq.dN (by rfl) (U.trans (ab) (aB.shut (g:=g))))))
 ·rw[if_pos hu]
  refine ah ?_
  refine aa ?_;intros
  exact aE (aF rfl () rfl (U.sat (aq.dN (by rfl) (U.trans (ab) (aB.shut (g:=g))))))
set_option maxHeartbeats 2000000 in
theorem Rv (hf:fV (n:Int)=true)(hc:dT n np cs)(hp:cy np pl)(h:br n np s)(hd:s.done=false)(e:s.next=8):Spec Tryz.prog 160 [.pointer p,.pointer q] W (aq q s*(aB p pp n cs*(aG pp pl*F))) (fun _:Unit=> .tuple #[])
  (fun _=>aq q (cu pl n cs s).2*(aB p pp n (cu pl n cs s).1*(aG pp pl*F))):=by
 refine Spec.of Tryz.func160 rfl Tryz.ntmps160 rfl ?_
 have jD:=hc.len
 have lG:=hc.n2
 have jX:=hc.j7
 have ha:=h.a
 have eK:=h.still
 have gV:=hc.w n
 have mT:=h.first
 have nQ:=h.il (by omega) (by omega)
 have mS:=jT.1 nQ
 obtain⟨hv,iv⟩:=h.vu hd
 refine dc p (aB.open fun g=> ?_)
 simp only[lU]
 refine dc q (aq.open ?_)
 rcases four hv with ev|ev|ev|ev
 ·have es:cu pl n cs s=(cs,{s with o0:=j8 pl n (bV s.first 0) s.a,next:=9}):=by
   unfold cu
   rw[if_neg (by omega),if_neg (by omega),if_pos e,(BY s _).1 ev,ev]
  rw[es,ev]
  refine aa ?_;intros
  refine ay 23 (dL p pp g n*(Obj q 286 (Value.int .i64 (s.kind:Int)::Value.int .i64 (s.f1:Int)::Value.int .u32 (s.f2:Int)::Value.int .u16 (s.f3:Int)::Value.int .i64 s.id::Value.int .i64 (s.a:Int)::Value.int .i64 (s.b:Int)::Value.int .i64 (s.next:Int)::Value.int .u64 (s.first:Int)::Value.int .u64 (s.word:Int)::Value.int .i64 (s.at_:Int)::Value.bool s.half::Value.int .i64 (s.seen.st:Int)::Value.int .i64 (s.seen.gen:Int)::Value.int .i64 (s.seen.tr:Int)::Value.int .i64 (s.seen.sn:Int)::Value.int .u64 (s.still:Int)::Value.int .i64 (s.m.phase:Int)::Value.int .i64 (s.m.id:Int)::Value.int .i64 (s.m.fr:Int)::Value.int .i64 (s.m.to:Int)::Value.int .i64 (s.m.version:Int)::Value.int .i64 (s.m.av:Int)::Value.int .i64 ((0:Nat):Int)::Value.int .i64 (s.u:Int)::Value.int .i64 (s.o0:Int)::Value.int .i64 (s.o1:Int)::Value.int .i64 (s.o2:Int)::Value.int .i64 (s.o3:Int)::Value.int .u64 (s.g0:Int)::Value.int .u64 (s.g1:Int)::Value.int .u64 (s.g2:Int)::Value.int .u64 (s.g3:Int)::Value.int .i64 (s.cC:Int)::Value.bool s.second::Value.int .i64 s.found::Value.int .i64 (s.aP.st:Int)::Value.int .i64 (s.aP.gen:Int)::Value.int .i64 (s.aP.tr:Int)::Value.int .i64 (s.aP.sn:Int)::Value.int .i64 (s.end_:Int)::Value.bool s.done::[])*1)) rfl rfl rfl ?_
  refine ah ?_
  refine aw rfl rfl rfl rfl rfl (js (i:=0) mT (by decide)) (fun _=>ab) ?_
  intro _
  refine ah ?_
  refine aw rfl rfl rfl rfl rfl (Spec.eZ p pp (td hf hp jX (mS 0 (by decide)) (h.tk 0 (by decide)))) (fun _=>ab) ?_
  intro _
  refine ah ?_
  refine bD ?_;intros
  refine aa ?_;intros
  exact aE (aF rfl () rfl (U.sat (aq.dN (by rfl) (U.trans (ab) (aB.shut (g:=g))))))
 ·have es:cu pl n cs s=(cs,{s with o1:=j8 pl n (bV s.first 1) s.a,next:=9}):=by
   unfold cu
   rw[if_neg (by omega),if_neg (by omega),if_pos e,(BY s _).2.1 ev,ev]
  rw[es,ev]
  refine aa ?_;intros
  refine ay 23 (dL p pp g n*(Obj q 286 (Value.int .i64 (s.kind:Int)::Value.int .i64 (s.f1:Int)::Value.int .u32 (s.f2:Int)::Value.int .u16 (s.f3:Int)::Value.int .i64 s.id::Value.int .i64 (s.a:Int)::Value.int .i64 (s.b:Int)::Value.int .i64 (s.next:Int)::Value.int .u64 (s.first:Int)::Value.int .u64 (s.word:Int)::Value.int .i64 (s.at_:Int)::Value.bool s.half::Value.int .i64 (s.seen.st:Int)::Value.int .i64 (s.seen.gen:Int)::Value.int .i64 (s.seen.tr:Int)::Value.int .i64 (s.seen.sn:Int)::Value.int .u64 (s.still:Int)::Value.int .i64 (s.m.phase:Int)::Value.int .i64 (s.m.id:Int)::Value.int .i64 (s.m.fr:Int)::Value.int .i64 (s.m.to:Int)::Value.int .i64 (s.m.version:Int)::Value.int .i64 (s.m.av:Int)::Value.int .i64 ((1:Nat):Int)::Value.int .i64 (s.u:Int)::Value.int .i64 (s.o0:Int)::Value.int .i64 (s.o1:Int)::Value.int .i64 (s.o2:Int)::Value.int .i64 (s.o3:Int)::Value.int .u64 (s.g0:Int)::Value.int .u64 (s.g1:Int)::Value.int .u64 (s.g2:Int)::Value.int .u64 (s.g3:Int)::Value.int .i64 (s.cC:Int)::Value.bool s.second::Value.int .i64 s.found::Value.int .i64 (s.aP.st:Int)::Value.int .i64 (s.aP.gen:Int)::Value.int .i64 (s.aP.tr:Int)::Value.int .i64 (s.aP.sn:Int)::Value.int .i64 (s.end_:Int)::Value.bool s.done::[])*1)) rfl rfl rfl ?_
  refine ah ?_
  refine aw rfl rfl rfl rfl rfl (js (i:=1) mT (by decide)) (fun _=>ab) ?_
  intro _
  refine ah ?_
  refine aw rfl rfl rfl rfl rfl (Spec.eZ p pp (td hf hp jX (mS 1 (by decide)) (h.tk 1 (by decide)))) (fun _=>ab) ?_
  intro _
  refine ah ?_
  refine bD ?_;intros
  refine aa ?_;intros
  exact aE (aF rfl () rfl (U.sat (aq.dN (by rfl) (U.trans (ab) (aB.shut (g:=g))))))
 ·have es:cu pl n cs s=(cs,{s with o2:=j8 pl n (bV s.first 2) s.a,next:=9}):=by
   unfold cu
   rw[if_neg (by omega),if_neg (by omega),if_pos e,(BY s _).2.2.1 ev,ev]
  rw[es,ev]
  refine aa ?_;intros
  refine ay 23 (dL p pp g n*(Obj q 286 (Value.int .i64 (s.kind:Int)::Value.int .i64 (s.f1:Int)::Value.int .u32 (s.f2:Int)::Value.int .u16 (s.f3:Int)::Value.int .i64 s.id::Value.int .i64 (s.a:Int)::Value.int .i64 (s.b:Int)::Value.int .i64 (s.next:Int)::Value.int .u64 (s.first:Int)::Value.int .u64 (s.word:Int)::Value.int .i64 (s.at_:Int)::Value.bool s.half::Value.int .i64 (s.seen.st:Int)::Value.int .i64 (s.seen.gen:Int)::Value.int .i64 (s.seen.tr:Int)::Value.int .i64 (s.seen.sn:Int)::Value.int .u64 (s.still:Int)::Value.int .i64 (s.m.phase:Int)::Value.int .i64 (s.m.id:Int)::Value.int .i64 (s.m.fr:Int)::Value.int .i64 (s.m.to:Int)::Value.int .i64 (s.m.version:Int)::Value.int .i64 (s.m.av:Int)::Value.int .i64 ((2:Nat):Int)::Value.int .i64 (s.u:Int)::Value.int .i64 (s.o0:Int)::Value.int .i64 (s.o1:Int)::Value.int .i64 (s.o2:Int)::Value.int .i64 (s.o3:Int)::Value.int .u64 (s.g0:Int)::Value.int .u64 (s.g1:Int)::Value.int .u64 (s.g2:Int)::Value.int .u64 (s.g3:Int)::Value.int .i64 (s.cC:Int)::Value.bool s.second::Value.int .i64 s.found::Value.int .i64 (s.aP.st:Int)::Value.int .i64 (s.aP.gen:Int)::Value.int .i64 (s.aP.tr:Int)::Value.int .i64 (s.aP.sn:Int)::Value.int .i64 (s.end_:Int)::Value.bool s.done::[])*1)) rfl rfl rfl ?_
  refine ah ?_
  refine aw rfl rfl rfl rfl rfl (js (i:=2) mT (by decide)) (fun _=>ab) ?_
  intro _
  refine ah ?_
  refine aw rfl rfl rfl rfl rfl (Spec.eZ p pp (td hf hp jX (mS 2 (by decide)) (h.tk 2 (by decide)))) (fun _=>ab) ?_
  intro _
  refine ah ?_
  refine bD ?_;intros
  refine aa ?_;intros
  exact aE (aF rfl () rfl (U.sat (aq.dN (by rfl) (U.trans (ab) (aB.shut (g:=g))))))
 ·have es:cu pl n cs s=(cs,{s with o3:=j8 pl n (bV s.first 3) s.a,next:=9}):=by
   unfold cu
   rw[if_neg (by omega),if_neg (by omega),if_pos e,(BY s _).2.2.2 ev,ev]
  rw[es,ev]
  refine aa ?_;intros
  refine ay 23 (dL p pp g n*(Obj q 286 (Value.int .i64 (s.kind:Int)::Value.int .i64 (s.f1:Int)::Value.int .u32 (s.f2:Int)::Value.int .u16 (s.f3:Int)::Value.int .i64 s.id::Value.int .i64 (s.a:Int)::Value.int .i64 (s.b:Int)::Value.int .i64 (s.next:Int)::Value.int .u64 (s.first:Int)::Value.int .u64 (s.word:Int)::Value.int .i64 (s.at_:Int)::Value.bool s.half::Value.int .i64 (s.seen.st:Int)::Value.int .i64 (s.seen.gen:Int)::Value.int .i64 (s.seen.tr:Int)::Value.int .i64 (s.seen.sn:Int)::Value.int .u64 (s.still:Int)::Value.int .i64 (s.m.phase:Int)::Value.int .i64 (s.m.id:Int)::Value.int .i64 (s.m.fr:Int)::Value.int .i64 (s.m.to:Int)::Value.int .i64 (s.m.version:Int)::Value.int .i64 (s.m.av:Int)::Value.int .i64 ((3:Nat):Int)::Value.int .i64 (s.u:Int)::Value.int .i64 (s.o0:Int)::Value.int .i64 (s.o1:Int)::Value.int .i64 (s.o2:Int)::Value.int .i64 (s.o3:Int)::Value.int .u64 (s.g0:Int)::Value.int .u64 (s.g1:Int)::Value.int .u64 (s.g2:Int)::Value.int .u64 (s.g3:Int)::Value.int .i64 (s.cC:Int)::Value.bool s.second::Value.int .i64 s.found::Value.int .i64 (s.aP.st:Int)::Value.int .i64 (s.aP.gen:Int)::Value.int .i64 (s.aP.tr:Int)::Value.int .i64 (s.aP.sn:Int)::Value.int .i64 (s.end_:Int)::Value.bool s.done::[])*1)) rfl rfl rfl ?_
  refine ah ?_
  refine aw rfl rfl rfl rfl rfl (js (i:=3) mT (by decide)) (fun _=>ab) ?_
  intro _
  refine ah ?_
  refine aw rfl rfl rfl rfl rfl (Spec.eZ p pp (td hf hp jX (mS 3 (by decide)) (h.tk 3 (by decide)))) (fun _=>ab) ?_
  intro _
  refine ah ?_
  refine bD ?_;intros
  refine aa ?_;intros
  exact aE (aF rfl () rfl (U.sat (aq.dN (by rfl) (U.trans (ab) (aB.shut (g:=g))))))
end
section
open Go.RowKit
set_option maxRecDepth 10000
attribute [local irreducible] EK EX ER EN EL ES EG an aR aU
variable {W:World} {F:SL} {X:Cx} {k:List KI} {σ:Env} {p pp g q:Option Addr} {ws cs pl:List Nat} {n np:Nat} {s:aT} {m:fo}
set_option maxHeartbeats 2000000 in
theorem Rw (hf:fV (n:Int)=true)(hc:dT n np cs)(hp:cy np pl)(h:br n np s)(hd:s.done=false)(e:s.next=9):Spec Tryz.prog 160 [.pointer p,.pointer q] W (aq q s*(aB p pp n cs*(aG pp pl*F))) (fun _:Unit=> .tuple #[])
  (fun _=>aq q (cu pl n cs s).2*(aB p pp n (cu pl n cs s).1*(aG pp pl*F))):=by
 refine Spec.of Tryz.func160 rfl Tryz.ntmps160 rfl ?_
 have jD:=hc.len
 have lG:=hc.n2
 have jX:=hc.j7
 have ha:=h.a
 have eK:=h.still
 have gV:=hc.w n
 have mT:=h.first
 have nQ:=h.il (by omega) (by omega)
 have mS:=jT.1 nQ
 obtain⟨hv,iv⟩:=h.vu hd
 refine dc p (aB.open fun g=> ?_)
 simp only[lU]
 refine dc q (aq.open ?_)
 rcases four hv with ev|ev|ev|ev
 ·have ky:=h.dw 0 (by decide)
  have eo:s.dw 0=s.o0:=rfl
  rw[eo]at ky
  have jq:=hc.w s.o0
  have es:cu pl n cs s=(cs,if dt (cs.getD s.o0 0)=false then mO {s with g0:=cs.getD s.o0 0} (bV s.first 0) s.a s.o0 (cs.getD s.o0 0)
    else {s with g0:=cs.getD s.o0 0,v:=1,next:=8}):=by
   unfold cu
   rw[if_neg (by omega),if_neg (by omega),if_neg (by omega),if_pos e,(BX s _).1 ((by rw[ev]):s.v=0),(oM s).1 ev,ev]
   rfl
  rw[es]
  rw[ev]
  refine aa ?_;intros
  refine ay 99 (dL p pp g n*(Obj q 286 (Value.int .i64 (s.kind:Int)::Value.int .i64 (s.f1:Int)::Value.int .u32 (s.f2:Int)::Value.int .u16 (s.f3:Int)::Value.int .i64 s.id::Value.int .i64 (s.a:Int)::Value.int .i64 (s.b:Int)::Value.int .i64 (s.next:Int)::Value.int .u64 (s.first:Int)::Value.int .u64 (s.word:Int)::Value.int .i64 (s.at_:Int)::Value.bool s.half::Value.int .i64 (s.seen.st:Int)::Value.int .i64 (s.seen.gen:Int)::Value.int .i64 (s.seen.tr:Int)::Value.int .i64 (s.seen.sn:Int)::Value.int .u64 (s.still:Int)::Value.int .i64 (s.m.phase:Int)::Value.int .i64 (s.m.id:Int)::Value.int .i64 (s.m.fr:Int)::Value.int .i64 (s.m.to:Int)::Value.int .i64 (s.m.version:Int)::Value.int .i64 (s.m.av:Int)::Value.int .i64 ((0:Nat):Int)::Value.int .i64 (s.u:Int)::Value.int .i64 (s.o0:Int)::Value.int .i64 (s.o1:Int)::Value.int .i64 (s.o2:Int)::Value.int .i64 (s.o3:Int)::Value.int .u64 (s.g0:Int)::Value.int .u64 (s.g1:Int)::Value.int .u64 (s.g2:Int)::Value.int .u64 (s.g3:Int)::Value.int .i64 (s.cC:Int)::Value.bool s.second::Value.int .i64 s.found::Value.int .i64 (s.aP.st:Int)::Value.int .i64 (s.aP.gen:Int)::Value.int .i64 (s.aP.tr:Int)::Value.int .i64 (s.aP.sn:Int)::Value.int .i64 (s.end_:Int)::Value.bool s.done::[])*1)) rfl rfl rfl ?_
  refine ah ?_
  refine aw rfl rfl rfl rfl rfl (Spec.aL g (fM g cs s.o0 (by omega) (by omega))) (fun _=>ab) ?_
  intro _
  refine ah ?_
  refine aa ?_;intros
  refine ay 9 (Obj q 286 (Value.int .i64 (s.kind:Int)::Value.int .i64 (s.f1:Int)::Value.int .u32 (s.f2:Int)::Value.int .u16 (s.f3:Int)::Value.int .i64 s.id::Value.int .i64 (s.a:Int)::Value.int .i64 (s.b:Int)::Value.int .i64 (s.next:Int)::Value.int .u64 (s.first:Int)::Value.int .u64 (s.word:Int)::Value.int .i64 (s.at_:Int)::Value.bool s.half::Value.int .i64 (s.seen.st:Int)::Value.int .i64 (s.seen.gen:Int)::Value.int .i64 (s.seen.tr:Int)::Value.int .i64 (s.seen.sn:Int)::Value.int .u64 (s.still:Int)::Value.int .i64 (s.m.phase:Int)::Value.int .i64 (s.m.id:Int)::Value.int .i64 (s.m.fr:Int)::Value.int .i64 (s.m.to:Int)::Value.int .i64 (s.m.version:Int)::Value.int .i64 (s.m.av:Int)::Value.int .i64 ((0:Nat):Int)::Value.int .i64 (s.u:Int)::Value.int .i64 (s.o0:Int)::Value.int .i64 (s.o1:Int)::Value.int .i64 (s.o2:Int)::Value.int .i64 (s.o3:Int)::Value.int .u64 (s.g0:Int)::Value.int .u64 (s.g1:Int)::Value.int .u64 (s.g2:Int)::Value.int .u64 (s.g3:Int)::Value.int .i64 (s.cC:Int)::Value.bool s.second::Value.int .i64 s.found::Value.int .i64 (s.aP.st:Int)::Value.int .i64 (s.aP.gen:Int)::Value.int .i64 (s.aP.tr:Int)::Value.int .i64 (s.aP.sn:Int)::Value.int .i64 (s.end_:Int)::Value.bool s.done::[])*1) rfl rfl rfl ?_
  refine ah ?_
  refine bD ?_;intros
  refine aa ?_;intros
  refine af rfl (vK jq) ?_
  intro _
  cases rD:dt (cs.getD s.o0 0)with
  |false=>
   rw[if_pos rfl]
   refine aa ?_;intros
   refine ay 24 (Obj q 286 (Value.int .i64 (s.kind:Int)::Value.int .i64 (s.f1:Int)::Value.int .u32 (s.f2:Int)::Value.int .u16 (s.f3:Int)::Value.int .i64 s.id::Value.int .i64 (s.a:Int)::Value.int .i64 (s.b:Int)::Value.int .i64 (s.next:Int)::Value.int .u64 (s.first:Int)::Value.int .u64 (s.word:Int)::Value.int .i64 (s.at_:Int)::Value.bool s.half::Value.int .i64 (s.seen.st:Int)::Value.int .i64 (s.seen.gen:Int)::Value.int .i64 (s.seen.tr:Int)::Value.int .i64 (s.seen.sn:Int)::Value.int .u64 (s.still:Int)::Value.int .i64 (s.m.phase:Int)::Value.int .i64 (s.m.id:Int)::Value.int .i64 (s.m.fr:Int)::Value.int .i64 (s.m.to:Int)::Value.int .i64 (s.m.version:Int)::Value.int .i64 (s.m.av:Int)::Value.int .i64 ((0:Nat):Int)::Value.int .i64 (s.u:Int)::Value.int .i64 (s.o0:Int)::Value.int .i64 (s.o1:Int)::Value.int .i64 (s.o2:Int)::Value.int .i64 (s.o3:Int)::Value.int .u64 (cs.getD s.o0 0:Int)::Value.int .u64 (s.g1:Int)::Value.int .u64 (s.g2:Int)::Value.int .u64 (s.g3:Int)::Value.int .i64 (s.cC:Int)::Value.bool s.second::Value.int .i64 s.found::Value.int .i64 (s.aP.st:Int)::Value.int .i64 (s.aP.gen:Int)::Value.int .i64 (s.aP.tr:Int)::Value.int .i64 (s.aP.sn:Int)::Value.int .i64 (s.end_:Int)::Value.bool s.done::[])*1) rfl rfl rfl ?_
   refine ah ?_
   refine aw rfl rfl rfl rfl rfl (js (i:=0) mT (by decide)) (fun _=>ab) ?_
   intro _
   refine ah ?_
   refine lp rfl rfl rfl rfl (Spec.aL q (Spec.pre (sR (q:=q) (s:={s with v:=0,g0:=cs.getD s.o0 0}) (mS 0 (by decide)) jq eK) (aq.bS (by rfl) (U.refl _)))) ?_
   intro _
   refine ah ?_
   refine aa ?_;intros
   exact ae (dm rfl () rfl (U.sat (U.cons (U.trans (ab) (aB.shut (g:=g))))))
  |true=>
   rw[if_neg (by decide)]
   refine aa ?_;intros
   exact aE (aF rfl () rfl (U.sat (aq.dN (by rfl) (U.trans (ab) (aB.shut (g:=g))))))
 ·have ky:=h.dw 1 (by decide)
  have eo:s.dw 1=s.o1:=rfl
  rw[eo]at ky
  have jq:=hc.w s.o1
  have es:cu pl n cs s=(cs,if dt (cs.getD s.o1 0)=false then mO {s with g1:=cs.getD s.o1 0} (bV s.first 1) s.a s.o1 (cs.getD s.o1 0)
    else {s with g1:=cs.getD s.o1 0,v:=2,next:=8}):=by
   unfold cu
   rw[if_neg (by omega),if_neg (by omega),if_neg (by omega),if_pos e,(BX s _).2.1 ((by rw[ev]):s.v=1),(oM s).2.1 ev,ev]
   rfl
  rw[es]
  rw[ev]
  refine aa ?_;intros
  refine ay 99 (dL p pp g n*(Obj q 286 (Value.int .i64 (s.kind:Int)::Value.int .i64 (s.f1:Int)::Value.int .u32 (s.f2:Int)::Value.int .u16 (s.f3:Int)::Value.int .i64 s.id::Value.int .i64 (s.a:Int)::Value.int .i64 (s.b:Int)::Value.int .i64 (s.next:Int)::Value.int .u64 (s.first:Int)::Value.int .u64 (s.word:Int)::Value.int .i64 (s.at_:Int)::Value.bool s.half::Value.int .i64 (s.seen.st:Int)::Value.int .i64 (s.seen.gen:Int)::Value.int .i64 (s.seen.tr:Int)::Value.int .i64 (s.seen.sn:Int)::Value.int .u64 (s.still:Int)::Value.int .i64 (s.m.phase:Int)::Value.int .i64 (s.m.id:Int)::Value.int .i64 (s.m.fr:Int)::Value.int .i64 (s.m.to:Int)::Value.int .i64 (s.m.version:Int)::Value.int .i64 (s.m.av:Int)::Value.int .i64 ((1:Nat):Int)::Value.int .i64 (s.u:Int)::Value.int .i64 (s.o0:Int)::Value.int .i64 (s.o1:Int)::Value.int .i64 (s.o2:Int)::Value.int .i64 (s.o3:Int)::Value.int .u64 (s.g0:Int)::Value.int .u64 (s.g1:Int)::Value.int .u64 (s.g2:Int)::Value.int .u64 (s.g3:Int)::Value.int .i64 (s.cC:Int)::Value.bool s.second::Value.int .i64 s.found::Value.int .i64 (s.aP.st:Int)::Value.int .i64 (s.aP.gen:Int)::Value.int .i64 (s.aP.tr:Int)::Value.int .i64 (s.aP.sn:Int)::Value.int .i64 (s.end_:Int)::Value.bool s.done::[])*1)) rfl rfl rfl ?_
  refine ah ?_
  refine aw rfl rfl rfl rfl rfl (Spec.aL g (fM g cs s.o1 (by omega) (by omega))) (fun _=>ab) ?_
  intro _
  refine ah ?_
  refine aa ?_;intros
  refine ay 9 (Obj q 286 (Value.int .i64 (s.kind:Int)::Value.int .i64 (s.f1:Int)::Value.int .u32 (s.f2:Int)::Value.int .u16 (s.f3:Int)::Value.int .i64 s.id::Value.int .i64 (s.a:Int)::Value.int .i64 (s.b:Int)::Value.int .i64 (s.next:Int)::Value.int .u64 (s.first:Int)::Value.int .u64 (s.word:Int)::Value.int .i64 (s.at_:Int)::Value.bool s.half::Value.int .i64 (s.seen.st:Int)::Value.int .i64 (s.seen.gen:Int)::Value.int .i64 (s.seen.tr:Int)::Value.int .i64 (s.seen.sn:Int)::Value.int .u64 (s.still:Int)::Value.int .i64 (s.m.phase:Int)::Value.int .i64 (s.m.id:Int)::Value.int .i64 (s.m.fr:Int)::Value.int .i64 (s.m.to:Int)::Value.int .i64 (s.m.version:Int)::Value.int .i64 (s.m.av:Int)::Value.int .i64 ((1:Nat):Int)::Value.int .i64 (s.u:Int)::Value.int .i64 (s.o0:Int)::Value.int .i64 (s.o1:Int)::Value.int .i64 (s.o2:Int)::Value.int .i64 (s.o3:Int)::Value.int .u64 (s.g0:Int)::Value.int .u64 (s.g1:Int)::Value.int .u64 (s.g2:Int)::Value.int .u64 (s.g3:Int)::Value.int .i64 (s.cC:Int)::Value.bool s.second::Value.int .i64 s.found::Value.int .i64 (s.aP.st:Int)::Value.int .i64 (s.aP.gen:Int)::Value.int .i64 (s.aP.tr:Int)::Value.int .i64 (s.aP.sn:Int)::Value.int .i64 (s.end_:Int)::Value.bool s.done::[])*1) rfl rfl rfl ?_
  refine ah ?_
  refine bD ?_;intros
  refine aa ?_;intros
  refine af rfl (vK jq) ?_
  intro _
  cases rD:dt (cs.getD s.o1 0)with
  |false=>
   rw[if_pos rfl]
   refine aa ?_;intros
   refine ay 24 (Obj q 286 (Value.int .i64 (s.kind:Int)::Value.int .i64 (s.f1:Int)::Value.int .u32 (s.f2:Int)::Value.int .u16 (s.f3:Int)::Value.int .i64 s.id::Value.int .i64 (s.a:Int)::Value.int .i64 (s.b:Int)::Value.int .i64 (s.next:Int)::Value.int .u64 (s.first:Int)::Value.int .u64 (s.word:Int)::Value.int .i64 (s.at_:Int)::Value.bool s.half::Value.int .i64 (s.seen.st:Int)::Value.int .i64 (s.seen.gen:Int)::Value.int .i64 (s.seen.tr:Int)::Value.int .i64 (s.seen.sn:Int)::Value.int .u64 (s.still:Int)::Value.int .i64 (s.m.phase:Int)::Value.int .i64 (s.m.id:Int)::Value.int .i64 (s.m.fr:Int)::Value.int .i64 (s.m.to:Int)::Value.int .i64 (s.m.version:Int)::Value.int .i64 (s.m.av:Int)::Value.int .i64 ((1:Nat):Int)::Value.int .i64 (s.u:Int)::Value.int .i64 (s.o0:Int)::Value.int .i64 (s.o1:Int)::Value.int .i64 (s.o2:Int)::Value.int .i64 (s.o3:Int)::Value.int .u64 (s.g0:Int)::Value.int .u64 (cs.getD s.o1 0:Int)::Value.int .u64 (s.g2:Int)::Value.int .u64 (s.g3:Int)::Value.int .i64 (s.cC:Int)::Value.bool s.second::Value.int .i64 s.found::Value.int .i64 (s.aP.st:Int)::Value.int .i64 (s.aP.gen:Int)::Value.int .i64 (s.aP.tr:Int)::Value.int .i64 (s.aP.sn:Int)::Value.int .i64 (s.end_:Int)::Value.bool s.done::[])*1) rfl rfl rfl ?_
   refine ah ?_
   refine aw rfl rfl rfl rfl rfl (js (i:=1) mT (by decide)) (fun _=>ab) ?_
   intro _
   refine ah ?_
   refine lp rfl rfl rfl rfl (Spec.aL q (Spec.pre (sR (q:=q) (s:={s with v:=1,g1:=cs.getD s.o1 0}) (mS 1 (by decide)) jq eK) (aq.bS (by rfl) (U.refl _)))) ?_
   intro _
   refine ah ?_
   refine aa ?_;intros
   exact ae (dm rfl () rfl (U.sat (U.cons (U.trans (ab) (aB.shut (g:=g))))))
  |true=>
   rw[if_neg (by decide)]
   refine aa ?_;intros
   exact aE (aF rfl () rfl (U.sat (aq.dN (by rfl) (U.trans (ab) (aB.shut (g:=g))))))
 ·have ky:=h.dw 2 (by decide)
  have eo:s.dw 2=s.o2:=rfl
  rw[eo]at ky
  have jq:=hc.w s.o2
  have es:cu pl n cs s=(cs,if dt (cs.getD s.o2 0)=false then mO {s with g2:=cs.getD s.o2 0} (bV s.first 2) s.a s.o2 (cs.getD s.o2 0)
    else {s with g2:=cs.getD s.o2 0,v:=3,next:=8}):=by
   unfold cu
   rw[if_neg (by omega),if_neg (by omega),if_neg (by omega),if_pos e,(BX s _).2.2.1 ((by rw[ev]):s.v=2),(oM s).2.2.1 ev,ev]
   rfl
  rw[es]
  rw[ev]
  refine aa ?_;intros
  refine ay 99 (dL p pp g n*(Obj q 286 (Value.int .i64 (s.kind:Int)::Value.int .i64 (s.f1:Int)::Value.int .u32 (s.f2:Int)::Value.int .u16 (s.f3:Int)::Value.int .i64 s.id::Value.int .i64 (s.a:Int)::Value.int .i64 (s.b:Int)::Value.int .i64 (s.next:Int)::Value.int .u64 (s.first:Int)::Value.int .u64 (s.word:Int)::Value.int .i64 (s.at_:Int)::Value.bool s.half::Value.int .i64 (s.seen.st:Int)::Value.int .i64 (s.seen.gen:Int)::Value.int .i64 (s.seen.tr:Int)::Value.int .i64 (s.seen.sn:Int)::Value.int .u64 (s.still:Int)::Value.int .i64 (s.m.phase:Int)::Value.int .i64 (s.m.id:Int)::Value.int .i64 (s.m.fr:Int)::Value.int .i64 (s.m.to:Int)::Value.int .i64 (s.m.version:Int)::Value.int .i64 (s.m.av:Int)::Value.int .i64 ((2:Nat):Int)::Value.int .i64 (s.u:Int)::Value.int .i64 (s.o0:Int)::Value.int .i64 (s.o1:Int)::Value.int .i64 (s.o2:Int)::Value.int .i64 (s.o3:Int)::Value.int .u64 (s.g0:Int)::Value.int .u64 (s.g1:Int)::Value.int .u64 (s.g2:Int)::Value.int .u64 (s.g3:Int)::Value.int .i64 (s.cC:Int)::Value.bool s.second::Value.int .i64 s.found::Value.int .i64 (s.aP.st:Int)::Value.int .i64 (s.aP.gen:Int)::Value.int .i64 (s.aP.tr:Int)::Value.int .i64 (s.aP.sn:Int)::Value.int .i64 (s.end_:Int)::Value.bool s.done::[])*1)) rfl rfl rfl ?_
  refine ah ?_
  refine aw rfl rfl rfl rfl rfl (Spec.aL g (fM g cs s.o2 (by omega) (by omega))) (fun _=>ab) ?_
  intro _
  refine ah ?_
  refine aa ?_;intros
  refine ay 9 (Obj q 286 (Value.int .i64 (s.kind:Int)::Value.int .i64 (s.f1:Int)::Value.int .u32 (s.f2:Int)::Value.int .u16 (s.f3:Int)::Value.int .i64 s.id::Value.int .i64 (s.a:Int)::Value.int .i64 (s.b:Int)::Value.int .i64 (s.next:Int)::Value.int .u64 (s.first:Int)::Value.int .u64 (s.word:Int)::Value.int .i64 (s.at_:Int)::Value.bool s.half::Value.int .i64 (s.seen.st:Int)::Value.int .i64 (s.seen.gen:Int)::Value.int .i64 (s.seen.tr:Int)::Value.int .i64 (s.seen.sn:Int)::Value.int .u64 (s.still:Int)::Value.int .i64 (s.m.phase:Int)::Value.int .i64 (s.m.id:Int)::Value.int .i64 (s.m.fr:Int)::Value.int .i64 (s.m.to:Int)::Value.int .i64 (s.m.version:Int)::Value.int .i64 (s.m.av:Int)::Value.int .i64 ((2:Nat):Int)::Value.int .i64 (s.u:Int)::Value.int .i64 (s.o0:Int)::Value.int .i64 (s.o1:Int)::Value.int .i64 (s.o2:Int)::Value.int .i64 (s.o3:Int)::Value.int .u64 (s.g0:Int)::Value.int .u64 (s.g1:Int)::Value.int .u64 (s.g2:Int)::Value.int .u64 (s.g3:Int)::Value.int .i64 (s.cC:Int)::Value.bool s.second::Value.int .i64 s.found::Value.int .i64 (s.aP.st:Int)::Value.int .i64 (s.aP.gen:Int)::Value.int .i64 (s.aP.tr:Int)::Value.int .i64 (s.aP.sn:Int)::Value.int .i64 (s.end_:Int)::Value.bool s.done::[])*1) rfl rfl rfl ?_
  refine ah ?_
  refine bD ?_;intros
  refine aa ?_;intros
  refine af rfl (vK jq) ?_
  intro _
  cases rD:dt (cs.getD s.o2 0)with
  |false=>
   rw[if_pos rfl]
   refine aa ?_;intros
   refine ay 24 (Obj q 286 (Value.int .i64 (s.kind:Int)::Value.int .i64 (s.f1:Int)::Value.int .u32 (s.f2:Int)::Value.int .u16 (s.f3:Int)::Value.int .i64 s.id::Value.int .i64 (s.a:Int)::Value.int .i64 (s.b:Int)::Value.int .i64 (s.next:Int)::Value.int .u64 (s.first:Int)::Value.int .u64 (s.word:Int)::Value.int .i64 (s.at_:Int)::Value.bool s.half::Value.int .i64 (s.seen.st:Int)::Value.int .i64 (s.seen.gen:Int)::Value.int .i64 (s.seen.tr:Int)::Value.int .i64 (s.seen.sn:Int)::Value.int .u64 (s.still:Int)::Value.int .i64 (s.m.phase:Int)::Value.int .i64 (s.m.id:Int)::Value.int .i64 (s.m.fr:Int)::Value.int .i64 (s.m.to:Int)::Value.int .i64 (s.m.version:Int)::Value.int .i64 (s.m.av:Int)::Value.int .i64 ((2:Nat):Int)::Value.int .i64 (s.u:Int)::Value.int .i64 (s.o0:Int)::Value.int .i64 (s.o1:Int)::Value.int .i64 (s.o2:Int)::Value.int .i64 (s.o3:Int)::Value.int .u64 (s.g0:Int)::Value.int .u64 (s.g1:Int)::Value.int .u64 (cs.getD s.o2 0:Int)::Value.int .u64 (s.g3:Int)::Value.int .i64 (s.cC:Int)::Value.bool s.second::Value.int .i64 s.found::Value.int .i64 (s.aP.st:Int)::Value.int .i64 (s.aP.gen:Int)::Value.int .i64 (s.aP.tr:Int)::Value.int .i64 (s.aP.sn:Int)::Value.int .i64 (s.end_:Int)::Value.bool s.done::[])*1) rfl rfl rfl ?_
   refine ah ?_
   refine aw rfl rfl rfl rfl rfl (js (i:=2) mT (by decide)) (fun _=>ab) ?_
   intro _
   refine ah ?_
   refine lp rfl rfl rfl rfl (Spec.aL q (Spec.pre (sR (q:=q) (s:={s with v:=2,g2:=cs.getD s.o2 0}) (mS 2 (by decide)) jq eK) (aq.bS (by rfl) (U.refl _)))) ?_
   intro _
   refine ah ?_
   refine aa ?_;intros
   exact ae (dm rfl () rfl (U.sat (U.cons (U.trans (ab) (aB.shut (g:=g))))))
  |true=>
   rw[if_neg (by decide)]
   refine aa ?_;intros
   exact aE (aF rfl () rfl (U.sat (aq.dN (by rfl) (U.trans (ab) (aB.shut (g:=g))))))
 ·have ky:=h.dw 3 (by decide)
  have eo:s.dw 3=s.o3:=rfl
  rw[eo]at ky
  have jq:=hc.w s.o3
  have es:cu pl n cs s=(cs,if dt (cs.getD s.o3 0)=false then mO {s with g3:=cs.getD s.o3 0} (bV s.first 3) s.a s.o3 (cs.getD s.o3 0)
    else {s with g3:=cs.getD s.o3 0,v:=0,next:=10}):=by
   unfold cu
   rw[if_neg (by omega),if_neg (by omega),if_neg (by omega),if_pos e,(BX s _).2.2.2 ((by rw[ev]):s.v=3),(oM s).2.2.2 ev,ev]
   rfl
  rw[es]
  rw[ev]
  refine aa ?_;intros
  refine ay 99 (dL p pp g n*(Obj q 286 (Value.int .i64 (s.kind:Int)::Value.int .i64 (s.f1:Int)::Value.int .u32 (s.f2:Int)::Value.int .u16 (s.f3:Int)::Value.int .i64 s.id::Value.int .i64 (s.a:Int)::Value.int .i64 (s.b:Int)::Value.int .i64 (s.next:Int)::Value.int .u64 (s.first:Int)::Value.int .u64 (s.word:Int)::Value.int .i64 (s.at_:Int)::Value.bool s.half::Value.int .i64 (s.seen.st:Int)::Value.int .i64 (s.seen.gen:Int)::Value.int .i64 (s.seen.tr:Int)::Value.int .i64 (s.seen.sn:Int)::Value.int .u64 (s.still:Int)::Value.int .i64 (s.m.phase:Int)::Value.int .i64 (s.m.id:Int)::Value.int .i64 (s.m.fr:Int)::Value.int .i64 (s.m.to:Int)::Value.int .i64 (s.m.version:Int)::Value.int .i64 (s.m.av:Int)::Value.int .i64 ((3:Nat):Int)::Value.int .i64 (s.u:Int)::Value.int .i64 (s.o0:Int)::Value.int .i64 (s.o1:Int)::Value.int .i64 (s.o2:Int)::Value.int .i64 (s.o3:Int)::Value.int .u64 (s.g0:Int)::Value.int .u64 (s.g1:Int)::Value.int .u64 (s.g2:Int)::Value.int .u64 (s.g3:Int)::Value.int .i64 (s.cC:Int)::Value.bool s.second::Value.int .i64 s.found::Value.int .i64 (s.aP.st:Int)::Value.int .i64 (s.aP.gen:Int)::Value.int .i64 (s.aP.tr:Int)::Value.int .i64 (s.aP.sn:Int)::Value.int .i64 (s.end_:Int)::Value.bool s.done::[])*1)) rfl rfl rfl ?_
  refine ah ?_
  refine aw rfl rfl rfl rfl rfl (Spec.aL g (fM g cs s.o3 (by omega) (by omega))) (fun _=>ab) ?_
  intro _
  refine ah ?_
  refine aa ?_;intros
  refine ay 9 (Obj q 286 (Value.int .i64 (s.kind:Int)::Value.int .i64 (s.f1:Int)::Value.int .u32 (s.f2:Int)::Value.int .u16 (s.f3:Int)::Value.int .i64 s.id::Value.int .i64 (s.a:Int)::Value.int .i64 (s.b:Int)::Value.int .i64 (s.next:Int)::Value.int .u64 (s.first:Int)::Value.int .u64 (s.word:Int)::Value.int .i64 (s.at_:Int)::Value.bool s.half::Value.int .i64 (s.seen.st:Int)::Value.int .i64 (s.seen.gen:Int)::Value.int .i64 (s.seen.tr:Int)::Value.int .i64 (s.seen.sn:Int)::Value.int .u64 (s.still:Int)::Value.int .i64 (s.m.phase:Int)::Value.int .i64 (s.m.id:Int)::Value.int .i64 (s.m.fr:Int)::Value.int .i64 (s.m.to:Int)::Value.int .i64 (s.m.version:Int)::Value.int .i64 (s.m.av:Int)::Value.int .i64 ((3:Nat):Int)::Value.int .i64 (s.u:Int)::Value.int .i64 (s.o0:Int)::Value.int .i64 (s.o1:Int)::Value.int .i64 (s.o2:Int)::Value.int .i64 (s.o3:Int)::Value.int .u64 (s.g0:Int)::Value.int .u64 (s.g1:Int)::Value.int .u64 (s.g2:Int)::Value.int .u64 (s.g3:Int)::Value.int .i64 (s.cC:Int)::Value.bool s.second::Value.int .i64 s.found::Value.int .i64 (s.aP.st:Int)::Value.int .i64 (s.aP.gen:Int)::Value.int .i64 (s.aP.tr:Int)::Value.int .i64 (s.aP.sn:Int)::Value.int .i64 (s.end_:Int)::Value.bool s.done::[])*1) rfl rfl rfl ?_
  refine ah ?_
  refine bD ?_;intros
  refine aa ?_;intros
  refine af rfl (vK jq) ?_
  intro _
  cases rD:dt (cs.getD s.o3 0)with
  |false=>
   rw[if_pos rfl]
   refine aa ?_;intros
   refine ay 24 (Obj q 286 (Value.int .i64 (s.kind:Int)::Value.int .i64 (s.f1:Int)::Value.int .u32 (s.f2:Int)::Value.int .u16 (s.f3:Int)::Value.int .i64 s.id::Value.int .i64 (s.a:Int)::Value.int .i64 (s.b:Int)::Value.int .i64 (s.next:Int)::Value.int .u64 (s.first:Int)::Value.int .u64 (s.word:Int)::Value.int .i64 (s.at_:Int)::Value.bool s.half::Value.int .i64 (s.seen.st:Int)::Value.int .i64 (s.seen.gen:Int)::Value.int .i64 (s.seen.tr:Int)::Value.int .i64 (s.seen.sn:Int)::Value.int .u64 (s.still:Int)::Value.int .i64 (s.m.phase:Int)::Value.int .i64 (s.m.id:Int)::Value.int .i64 (s.m.fr:Int)::Value.int .i64 (s.m.to:Int)::Value.int .i64 (s.m.version:Int)::Value.int .i64 (s.m.av:Int)::Value.int .i64 ((3:Nat):Int)::Value.int .i64 (s.u:Int)::Value.int .i64 (s.o0:Int)::Value.int .i64 (s.o1:Int)::Value.int .i64 (s.o2:Int)::Value.int .i64 (s.o3:Int)::Value.int .u64 (s.g0:Int)::Value.int .u64 (s.g1:Int)::Value.int .u64 (s.g2:Int)::Value.int .u64 (cs.getD s.o3 0:Int)::Value.int .i64 (s.cC:Int)::Value.bool s.second::Value.int .i64 s.found::Value.int .i64 (s.aP.st:Int)::Value.int .i64 (s.aP.gen:Int)::Value.int .i64 (s.aP.tr:Int)::Value.int .i64 (s.aP.sn:Int)::Value.int .i64 (s.end_:Int)::Value.bool s.done::[])*1) rfl rfl rfl ?_
   refine ah ?_
   refine aw rfl rfl rfl rfl rfl (js (i:=3) mT (by decide)) (fun _=>ab) ?_
   intro _
   refine ah ?_
   refine lp rfl rfl rfl rfl (Spec.aL q (Spec.pre (sR (q:=q) (s:={s with v:=3,g3:=cs.getD s.o3 0}) (mS 3 (by decide)) jq eK) (aq.bS (by rfl) (U.refl _)))) ?_
   intro _
   refine ah ?_
   refine aa ?_;intros
   exact ae (dm rfl () rfl (U.sat (U.cons (U.trans (ab) (aB.shut (g:=g))))))
  |true=>
   rw[if_neg (by decide)]
   refine aa ?_;intros
   exact aE (aF rfl () rfl (U.sat (aq.dN (by rfl) (U.trans (ab) (aB.shut (g:=g))))))
end
section
open Go.RowKit
set_option maxRecDepth 10000
attribute [local irreducible] EK EX ER EN EL ES EG an aR aU
variable {W:World} {F:SL} {X:Cx} {k:List KI} {σ:Env} {p pp g q:Option Addr} {ws cs pl:List Nat} {n np:Nat} {s:aT} {m:fo}
set_option maxHeartbeats 2000000 in
theorem Rq (hf:fV (n:Int)=true)(hc:dT n np cs)(hp:cy np pl)(h:br n np s)(hd:s.done=false)(e:s.next=10):Spec Tryz.prog 160 [.pointer p,.pointer q] W (aq q s*(aB p pp n cs*(aG pp pl*F))) (fun _:Unit=> .tuple #[])
  (fun _=>aq q (cu pl n cs s).2*(aB p pp n (cu pl n cs s).1*(aG pp pl*F))):=by
 refine Spec.of Tryz.func160 rfl Tryz.ntmps160 rfl ?_
 have jD:=hc.len
 have lG:=hc.n2
 have jX:=hc.j7
 have ha:=h.a
 have eK:=h.still
 have gV:=hc.w n
 have mT:=h.first
 have nQ:=h.il (by omega) (by omega)
 have mS:=jT.1 nQ
 obtain⟨hv,iv⟩:=h.vu hd
 refine dc p (aB.open fun g=> ?_)
 simp only[lU]
 refine dc q (aq.open ?_)
 have mR:=h.mc (.inl e)
 rcases four hv with ev|ev|ev|ev
 ·obtain⟨gU,eh⟩:=h.eJ 0 (by decide)
  have jF:=jT.1 (mR 0 (by decide)) s.u iv
  have eh:=eh s.u iv
  have eg:s.eJ 0=s.g0:=rfl
  rw[eg]at gU jF eh
  have es:cu pl n cs s=(cs,{s with cC:=j8 pl n (bV s.g0 s.u) s.o0,next:=11}):=by
   unfold cu
   rw[if_neg (by omega),if_neg (by omega),if_neg (by omega),if_neg (by omega),if_pos e,(oM s).1 ev,(sQ s).1 ev]
  rw[es,ev]
  refine aa ?_;intros
  refine ay 28 (dL p pp g n*(Obj q 286 (Value.int .i64 (s.kind:Int)::Value.int .i64 (s.f1:Int)::Value.int .u32 (s.f2:Int)::Value.int .u16 (s.f3:Int)::Value.int .i64 s.id::Value.int .i64 (s.a:Int)::Value.int .i64 (s.b:Int)::Value.int .i64 (s.next:Int)::Value.int .u64 (s.first:Int)::Value.int .u64 (s.word:Int)::Value.int .i64 (s.at_:Int)::Value.bool s.half::Value.int .i64 (s.seen.st:Int)::Value.int .i64 (s.seen.gen:Int)::Value.int .i64 (s.seen.tr:Int)::Value.int .i64 (s.seen.sn:Int)::Value.int .u64 (s.still:Int)::Value.int .i64 (s.m.phase:Int)::Value.int .i64 (s.m.id:Int)::Value.int .i64 (s.m.fr:Int)::Value.int .i64 (s.m.to:Int)::Value.int .i64 (s.m.version:Int)::Value.int .i64 (s.m.av:Int)::Value.int .i64 ((0:Nat):Int)::Value.int .i64 (s.u:Int)::Value.int .i64 (s.o0:Int)::Value.int .i64 (s.o1:Int)::Value.int .i64 (s.o2:Int)::Value.int .i64 (s.o3:Int)::Value.int .u64 (s.g0:Int)::Value.int .u64 (s.g1:Int)::Value.int .u64 (s.g2:Int)::Value.int .u64 (s.g3:Int)::Value.int .i64 (s.cC:Int)::Value.bool s.second::Value.int .i64 s.found::Value.int .i64 (s.aP.st:Int)::Value.int .i64 (s.aP.gen:Int)::Value.int .i64 (s.aP.tr:Int)::Value.int .i64 (s.aP.sn:Int)::Value.int .i64 (s.end_:Int)::Value.bool s.done::[])*1)) rfl rfl rfl ?_
  refine ah ?_
  refine aw rfl rfl rfl rfl rfl (js gU iv) (fun _=>ab) ?_
  intro _
  refine ah ?_
  refine aw rfl rfl rfl rfl rfl (Spec.eZ p pp (td hf hp jX jF eh)) (fun _=>ab) ?_
  intro _
  refine ah ?_
  refine bD ?_;intros
  refine aa ?_;intros
  exact aE (aF rfl () rfl (U.sat (aq.dN (by rfl) (U.trans (ab) (aB.shut (g:=g))))))
 ·obtain⟨gU,eh⟩:=h.eJ 1 (by decide)
  have jF:=jT.1 (mR 1 (by decide)) s.u iv
  have eh:=eh s.u iv
  have eg:s.eJ 1=s.g1:=rfl
  rw[eg]at gU jF eh
  have es:cu pl n cs s=(cs,{s with cC:=j8 pl n (bV s.g1 s.u) s.o1,next:=11}):=by
   unfold cu
   rw[if_neg (by omega),if_neg (by omega),if_neg (by omega),if_neg (by omega),if_pos e,(oM s).2.1 ev,(sQ s).2.1 ev]
  rw[es,ev]
  refine aa ?_;intros
  refine ay 28 (dL p pp g n*(Obj q 286 (Value.int .i64 (s.kind:Int)::Value.int .i64 (s.f1:Int)::Value.int .u32 (s.f2:Int)::Value.int .u16 (s.f3:Int)::Value.int .i64 s.id::Value.int .i64 (s.a:Int)::Value.int .i64 (s.b:Int)::Value.int .i64 (s.next:Int)::Value.int .u64 (s.first:Int)::Value.int .u64 (s.word:Int)::Value.int .i64 (s.at_:Int)::Value.bool s.half::Value.int .i64 (s.seen.st:Int)::Value.int .i64 (s.seen.gen:Int)::Value.int .i64 (s.seen.tr:Int)::Value.int .i64 (s.seen.sn:Int)::Value.int .u64 (s.still:Int)::Value.int .i64 (s.m.phase:Int)::Value.int .i64 (s.m.id:Int)::Value.int .i64 (s.m.fr:Int)::Value.int .i64 (s.m.to:Int)::Value.int .i64 (s.m.version:Int)::Value.int .i64 (s.m.av:Int)::Value.int .i64 ((1:Nat):Int)::Value.int .i64 (s.u:Int)::Value.int .i64 (s.o0:Int)::Value.int .i64 (s.o1:Int)::Value.int .i64 (s.o2:Int)::Value.int .i64 (s.o3:Int)::Value.int .u64 (s.g0:Int)::Value.int .u64 (s.g1:Int)::Value.int .u64 (s.g2:Int)::Value.int .u64 (s.g3:Int)::Value.int .i64 (s.cC:Int)::Value.bool s.second::Value.int .i64 s.found::Value.int .i64 (s.aP.st:Int)::Value.int .i64 (s.aP.gen:Int)::Value.int .i64 (s.aP.tr:Int)::Value.int .i64 (s.aP.sn:Int)::Value.int .i64 (s.end_:Int)::Value.bool s.done::[])*1)) rfl rfl rfl ?_
  refine ah ?_
  refine aw rfl rfl rfl rfl rfl (js gU iv) (fun _=>ab) ?_
  intro _
  refine ah ?_
  refine aw rfl rfl rfl rfl rfl (Spec.eZ p pp (td hf hp jX jF eh)) (fun _=>ab) ?_
  intro _
  refine ah ?_
  refine bD ?_;intros
  refine aa ?_;intros
  exact aE (aF rfl () rfl (U.sat (aq.dN (by rfl) (U.trans (ab) (aB.shut (g:=g))))))
 ·obtain⟨gU,eh⟩:=h.eJ 2 (by decide)
  have jF:=jT.1 (mR 2 (by decide)) s.u iv
  have eh:=eh s.u iv
  have eg:s.eJ 2=s.g2:=rfl
  rw[eg]at gU jF eh
  have es:cu pl n cs s=(cs,{s with cC:=j8 pl n (bV s.g2 s.u) s.o2,next:=11}):=by
   unfold cu
   rw[if_neg (by omega),if_neg (by omega),if_neg (by omega),if_neg (by omega),if_pos e,(oM s).2.2.1 ev,(sQ s).2.2.1 ev]
  rw[es,ev]
  refine aa ?_;intros
  refine ay 28 (dL p pp g n*(Obj q 286 (Value.int .i64 (s.kind:Int)::Value.int .i64 (s.f1:Int)::Value.int .u32 (s.f2:Int)::Value.int .u16 (s.f3:Int)::Value.int .i64 s.id::Value.int .i64 (s.a:Int)::Value.int .i64 (s.b:Int)::Value.int .i64 (s.next:Int)::Value.int .u64 (s.first:Int)::Value.int .u64 (s.word:Int)::Value.int .i64 (s.at_:Int)::Value.bool s.half::Value.int .i64 (s.seen.st:Int)::Value.int .i64 (s.seen.gen:Int)::Value.int .i64 (s.seen.tr:Int)::Value.int .i64 (s.seen.sn:Int)::Value.int .u64 (s.still:Int)::Value.int .i64 (s.m.phase:Int)::Value.int .i64 (s.m.id:Int)::Value.int .i64 (s.m.fr:Int)::Value.int .i64 (s.m.to:Int)::Value.int .i64 (s.m.version:Int)::Value.int .i64 (s.m.av:Int)::Value.int .i64 ((2:Nat):Int)::Value.int .i64 (s.u:Int)::Value.int .i64 (s.o0:Int)::Value.int .i64 (s.o1:Int)::Value.int .i64 (s.o2:Int)::Value.int .i64 (s.o3:Int)::Value.int .u64 (s.g0:Int)::Value.int .u64 (s.g1:Int)::Value.int .u64 (s.g2:Int)::Value.int .u64 (s.g3:Int)::Value.int .i64 (s.cC:Int)::Value.bool s.second::Value.int .i64 s.found::Value.int .i64 (s.aP.st:Int)::Value.int .i64 (s.aP.gen:Int)::Value.int .i64 (s.aP.tr:Int)::Value.int .i64 (s.aP.sn:Int)::Value.int .i64 (s.end_:Int)::Value.bool s.done::[])*1)) rfl rfl rfl ?_
  refine ah ?_
  refine aw rfl rfl rfl rfl rfl (js gU iv) (fun _=>ab) ?_
  intro _
  refine ah ?_
  refine aw rfl rfl rfl rfl rfl (Spec.eZ p pp (td hf hp jX jF eh)) (fun _=>ab) ?_
  intro _
  refine ah ?_
  refine bD ?_;intros
  refine aa ?_;intros
  exact aE (aF rfl () rfl (U.sat (aq.dN (by rfl) (U.trans (ab) (aB.shut (g:=g))))))
 ·obtain⟨gU,eh⟩:=h.eJ 3 (by decide)
  have jF:=jT.1 (mR 3 (by decide)) s.u iv
  have eh:=eh s.u iv
  have eg:s.eJ 3=s.g3:=rfl
  rw[eg]at gU jF eh
  have es:cu pl n cs s=(cs,{s with cC:=j8 pl n (bV s.g3 s.u) s.o3,next:=11}):=by
   unfold cu
   rw[if_neg (by omega),if_neg (by omega),if_neg (by omega),if_neg (by omega),if_pos e,(oM s).2.2.2 ev,(sQ s).2.2.2 ev]
  rw[es,ev]
  refine aa ?_;intros
  refine ay 28 (dL p pp g n*(Obj q 286 (Value.int .i64 (s.kind:Int)::Value.int .i64 (s.f1:Int)::Value.int .u32 (s.f2:Int)::Value.int .u16 (s.f3:Int)::Value.int .i64 s.id::Value.int .i64 (s.a:Int)::Value.int .i64 (s.b:Int)::Value.int .i64 (s.next:Int)::Value.int .u64 (s.first:Int)::Value.int .u64 (s.word:Int)::Value.int .i64 (s.at_:Int)::Value.bool s.half::Value.int .i64 (s.seen.st:Int)::Value.int .i64 (s.seen.gen:Int)::Value.int .i64 (s.seen.tr:Int)::Value.int .i64 (s.seen.sn:Int)::Value.int .u64 (s.still:Int)::Value.int .i64 (s.m.phase:Int)::Value.int .i64 (s.m.id:Int)::Value.int .i64 (s.m.fr:Int)::Value.int .i64 (s.m.to:Int)::Value.int .i64 (s.m.version:Int)::Value.int .i64 (s.m.av:Int)::Value.int .i64 ((3:Nat):Int)::Value.int .i64 (s.u:Int)::Value.int .i64 (s.o0:Int)::Value.int .i64 (s.o1:Int)::Value.int .i64 (s.o2:Int)::Value.int .i64 (s.o3:Int)::Value.int .u64 (s.g0:Int)::Value.int .u64 (s.g1:Int)::Value.int .u64 (s.g2:Int)::Value.int .u64 (s.g3:Int)::Value.int .i64 (s.cC:Int)::Value.bool s.second::Value.int .i64 s.found::Value.int .i64 (s.aP.st:Int)::Value.int .i64 (s.aP.gen:Int)::Value.int .i64 (s.aP.tr:Int)::Value.int .i64 (s.aP.sn:Int)::Value.int .i64 (s.end_:Int)::Value.bool s.done::[])*1)) rfl rfl rfl ?_
  refine ah ?_
  refine aw rfl rfl rfl rfl rfl (js gU iv) (fun _=>ab) ?_
  intro _
  refine ah ?_
  refine aw rfl rfl rfl rfl rfl (Spec.eZ p pp (td hf hp jX jF eh)) (fun _=>ab) ?_
  intro _
  refine ah ?_
  refine bD ?_;intros
  refine aa ?_;intros
  exact aE (aF rfl () rfl (U.sat (aq.dN (by rfl) (U.trans (ab) (aB.shut (g:=g))))))
set_option maxHeartbeats 2000000 in
theorem Rr (hf:fV (n:Int)=true)(hc:dT n np cs)(hp:cy np pl)(h:br n np s)(hd:s.done=false)(e:s.next=11):Spec Tryz.prog 160 [.pointer p,.pointer q] W (aq q s*(aB p pp n cs*(aG pp pl*F))) (fun _:Unit=> .tuple #[])
  (fun _=>aq q (cu pl n cs s).2*(aB p pp n (cu pl n cs s).1*(aG pp pl*F))):=by
 refine Spec.of Tryz.func160 rfl Tryz.ntmps160 rfl ?_
 have jD:=hc.len
 have lG:=hc.n2
 have jX:=hc.j7
 have ha:=h.a
 have eK:=h.still
 have gV:=hc.w n
 have mT:=h.first
 have nQ:=h.il (by omega) (by omega)
 have mS:=jT.1 nQ
 obtain⟨hv,iv⟩:=h.vu hd
 refine dc p (aB.open fun g=> ?_)
 simp only[lU]
 refine dc q (aq.open ?_)
 refine aa ?_;intros
 refine af rfl (Spec.pre (Sc (pl:=pl) (p:=p) (q:=q) (g:=g) (pp:=pp) (F:=aG pp pl*F) hc h hd e) (aq.dN (by rfl) (ab))) ?_
 intro _
 have es:(cu pl n cs s).1=cs:=by
  unfold cu
  rw[if_neg (by omega),if_neg (by omega),if_neg (by omega),if_neg (by omega),if_neg (by omega),if_pos e]
 rw[es]
 refine aa ?_;intros
 exact aE (aF rfl () rfl (U.sat (U.cons (U.trans (ab) (aB.shut (g:=g))))))
set_option maxHeartbeats 2000000 in
theorem Rs (hf:fV (n:Int)=true)(hc:dT n np cs)(hp:cy np pl)(h:br n np s)(hd:s.done=false)(e:s.next=12):Spec Tryz.prog 160 [.pointer p,.pointer q] W (aq q s*(aB p pp n cs*(aG pp pl*F))) (fun _:Unit=> .tuple #[])
  (fun _=>aq q (cu pl n cs s).2*(aB p pp n (cu pl n cs s).1*(aG pp pl*F))):=by
 refine Spec.of Tryz.func160 rfl Tryz.ntmps160 rfl ?_
 have jD:=hc.len
 have lG:=hc.n2
 have jX:=hc.j7
 have ha:=h.a
 have eK:=h.still
 have gV:=hc.w n
 have mT:=h.first
 have nQ:=h.il (by omega) (by omega)
 have mS:=jT.1 nQ
 obtain⟨hv,iv⟩:=h.vu hd
 refine dc p (aB.open fun g=> ?_)
 simp only[lU]
 refine dc q (aq.open ?_)
 have hm:=h.m
 have J3:fo.Ok s.m:=hm.tm lG jX
 have es:cu pl n cs s=if cs.getD n 0=s.still then(cs.set n (kC s.m),{s with next:=13})else(cs,{s with next:=6}):=by
  unfold cu
  rw[if_neg (by omega),if_neg (by omega),if_neg (by omega),if_neg (by omega),if_neg (by omega),if_neg (by omega)]
  rfl
 rw[es]
 refine aa ?_;intros
 obtain⟨t,ht⟩:∃t:aT,t={s with next:=6}:=⟨_,rfl⟩
 have Uw:t.still=s.still:=by rw[ht]
 have J4:t.m=s.m:=by rw[ht]
 have ex:({s with next:=13}:aT)={t with next:=13}:=by rw[ht]
 rw[ex,←ht,←Uw,←J4]
 refine iQ (G:=Obj q 286 (fi t)*(dL p pp g n*(cB g cs*(aG pp pl*F)))) (by rw[ht];exact ab) ?_
 refine ay 99 (dL p pp g n*(Obj q 286 (fi t)*1)) rfl rfl rfl ?_
 refine ah ?_
 refine aw rfl rfl rfl rfl rfl (yN (m:=t.m) (by rw[J4];exact J3)) (fun _=>ab) ?_
 intro _
 refine ah ?_
 refine aw rfl rfl rfl rfl rfl (Spec.aL g (ns g cs n t.still (kC t.m) (by omega) (by omega))) (fun _=>ab) ?_
 intro _
 refine ah ?_
 by_cases hu:cs.getD n 0=t.still
 ·rw[if_pos hu,if_pos hu,decide_eq_true hu]
  refine aa ?_;intros
  exact aE (aF rfl () rfl (U.sat (aq.dN (by rfl) (U.trans (ab) (aB.shut (g:=g))))))
 ·rw[if_neg hu,if_neg hu,decide_eq_false hu]
  refine aa ?_;intros
  exact aE (aF rfl () rfl (U.sat (aq.dN (by rfl) (U.trans (ab) (aB.shut (g:=g))))))
end
section
open Go.RowKit
set_option maxRecDepth 10000
attribute [local irreducible] EK EX ER EN EL ES EG an aR aU
variable {W:World} {F:SL} {X:Cx} {k:List KI} {σ:Env} {p pp g q:Option Addr} {ws cs pl:List Nat} {n np:Nat} {s:aT} {m:fo}
theorem Rx (hf:fV (n:Int)=true)(hc:dT n np cs)(hp:cy np pl)(h:br n np s)(hd:s.done=false)(h6:6≤s.next)(Az:s.next≤12):Spec Tryz.prog 160 [.pointer p,.pointer q] W (aq q s*(aB p pp n cs*(aG pp pl*F))) (fun _:Unit=> .tuple #[])
  (fun _=>aq q (cu pl n cs s).2*(aB p pp n (cu pl n cs s).1*(aG pp pl*F))):=by
 have jo:s.next=6∨s.next=7∨s.next=8∨s.next=9∨s.next=10∨s.next=11∨s.next=12:=by omega
 rcases jo with e|e|e|e|e|e|e
 ·exact Rt hf hc hp h hd e
 ·exact Ru hf hc hp h hd e
 ·exact Rv hf hc hp h hd e
 ·exact Rw hf hc hp h hd e
 ·exact Rq hf hc hp h hd e
 ·exact Rr hf hc hp h hd e
 ·exact Rs hf hc hp h hd e
theorem zS (hf:fV (n:Int)=true)(hc:dT n np cs)(hp:cy np pl)(h:br n np s)(hd:s.done=false):Spec Tryz.prog 111 [.pointer p,.pointer q] W (aq q s*(aB p pp n cs*(aG pp pl*F))) (fun _:Unit=> .bool (bO pl n cs s).2.done)
  (fun _=>aq q (bO pl n cs s).2*(aB p pp n (bO pl n cs s).1*(aG pp pl*F))):=by
 refine Spec.of Tryz.func111 rfl Tryz.ntmps111 rfl ?_
 have oE:=h.next
 refine dc q (aq.open ?_)
 by_cases uo:23≤s.next
 ·have es:bO pl n cs s=rk cs s:=by unfold bO;rw[if_neg (by rw[hd];decide),if_pos uo]
  rw[es]
  refine aa ?_;intros
  rw[hd]
  refine aa ?_;intros
  refine af rfl (Spec.pre (RB (p:=p) (q:=q) (pp:=pp) (s:=s) (F:=aG pp pl*F) ⟨hc.len,hc.n2,hc.w,h.a,h.b,by omega,h.word,h.out,hd⟩) (aq.bS (by unfold kI;rw[hd]) (U.refl _))) ?_
  intro _
  rw[drop_eq]
  generalize rk cs s=D at*
  refine aq.iK ?_
  refine aa ?_;intros
  exact ae (aj rfl rfl () rfl (U.sat (aq.bS (by rfl) (U.refl _))))
 by_cases sU:13≤s.next
 ·have es:bO pl n cs s=gS pl n cs s:=by unfold bO;rw[if_neg (by rw[hd];decide),if_neg uo,if_pos sU]
  rw[es]
  refine aa ?_;intros
  rw[hd]
  refine aa ?_;intros
  refine af rfl (Spec.pre (TI (p:=p) (q:=q) (pp:=pp) (s:=s) (F:=F) hc hp h sU (by omega)) (aq.bS (by unfold kI;rw[hd]) (U.refl _))) ?_
  intro _
  generalize gS pl n cs s=D at*
  refine aq.iK ?_
  refine aa ?_;intros
  exact ae (aj rfl rfl () rfl (U.sat (aq.bS (by rfl) (U.refl _))))
 by_cases h6:6≤s.next
 ·have es:bO pl n cs s=cu pl n cs s:=by unfold bO;rw[if_neg (by rw[hd];decide),if_neg uo,if_neg sU,if_pos h6]
  rw[es]
  refine aa ?_;intros
  rw[hd]
  refine aa ?_;intros
  refine af rfl (Spec.pre (Rx (p:=p) (q:=q) (pp:=pp) (s:=s) (F:=F) hf hc hp h hd h6 (by omega)) (aq.bS (by unfold kI;rw[hd]) (U.refl _))) ?_
  intro _
  generalize cu pl n cs s=D at*
  refine aq.iK ?_
  refine aa ?_;intros
  exact ae (aj rfl rfl () rfl (U.sat (aq.bS (by rfl) (U.refl _))))
 ·have es:bO pl n cs s=iX cs pl s:=by unfold bO;rw[if_neg (by rw[hd];decide),if_neg uo,if_neg sU,if_neg h6]
  rw[es]
  refine aa ?_;intros
  rw[hd]
  refine aa ?_;intros
  refine af rfl (Spec.pre (XV (p:=p) (q:=q) (pp:=pp) (s:=s) (F:=F) ⟨hc.len,hc.n2,hp.len,hc.j7,hc.w,hp.w,h.a,h.b,by omega,h.oZ,h.refs,h.word,h.first,h.EZ,h.v8,h.f1,h.f2,h.f3,h.kind,hd,fun e5=>⟨h.Bh (h.link e5).1,(h.link e5).2⟩⟩) (aq.bS (by unfold kI;rw[hd]) (U.refl _))) ?_
  intro _
  generalize iX cs pl s=D at*
  refine aq.iK ?_
  refine aa ?_;intros
  exact ae (aj rfl rfl () rfl (U.sat (aq.bS (by rfl) (U.refl _))))
end
end Go.Proofs.YtfkngchldmfpfaaGreatDoor
