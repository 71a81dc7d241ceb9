/-
  Joined by a program (wip/bundle2.py).
-/
import Derived.Test.YtimekbpkejemoaaGreatDoorG15
set_option linter.unusedVariables false
set_option linter.unusedSimpArgs false
namespace Go.Proofs.YtimekbpkejemoaaGreatDoor
section
open Go.RowKit
set_option maxRecDepth 10000
attribute [local irreducible] EK EX ER EN EL ES EG av aV aY
variable {W:World} {F G:SL} {X:Cx} {kk:List KI} {σ:Env} {pn q:Option Addr} {f:aP} {c:NC} {R:dW} {s:bc} {k:aU} {P:dt} {pp:Nat→Option Addr}
theorem Q6 {i:Nat}(hi:i<3){w:List Nat}:(s.eO i w).po i=w:=by
 rcases(show i=0∨i=1∨i=2 by omega)with rfl|rfl|rfl<;>rfl
set_option maxHeartbeats 2000000 in
theorem MP (hc : c.Ok) (hp : cp (3 * c.np) s.pl) (ht : cV c.nb (3 * c.np) s.tb) (hk : lL c s k) (h : oH c k f) (e : f.next = 7) :
    Spec Tryz.prog 116 [.pointer pn, .pointer P.p, .pointer q] W (aA q f * bf R.po P k (NH pn c R * (aJ R.pl s.pl * (aF R.tb R.pl c.nb s.tb * (aE (bC c R s) 3 * F))))) (fun _ : Unit => .tuple #[]) (fun _ => fP q pn c R P F (cq c s k f)) := by
  refine Spec.of Tryz.func116 rfl Tryz.ntmps116 rfl ?_
  have ja := hc.oX
  have cB := h.fin
  have tc := cB.proto
  have nK := h.dy
  have bj := jb f.ao.proto
  have ho := hk.out _ bj
  obtain ⟨t, jX, iE, tD⟩ := h.find e
  obtain ⟨x, iz, x0, x1, xn, xl⟩ := h.j4 e
  obtain ⟨xk, xi, xd⟩ := x
  dsimp only at x0 x1 xn xl iz
  subst x0 x1
  have eC : ∀ (a i : Option Addr) (y : bG) (d : Bool), gk a i ⟨0, y, d⟩ = dU a 0 i d * bd i y := fun _ _ _ _ => rfl
  have ri : ∀ (a i : Option Addr) (y : bG) (d : Bool), gk a i ⟨1, y, d⟩ = dU a 1 i d * bd i y := fun _ _ _ _ => rfl
  have es : cq c s k f = ({ s with tb := (bI s.pl c.nb s.tb t).1 }, k, if (bI s.pl c.nb s.tb t).2.done = false then { f with find := some (bI s.pl c.nb s.tb t).2 }
        else if (bI s.pl c.nb s.tb t).2.end_ = 0 then { f with find := some (bI s.pl c.nb s.tb t).2 }.iA (bI s.pl c.nb s.tb t).2.found (bI s.pl c.nb s.tb t).2.aM
        else { f with find := some (bI s.pl c.nb s.tb t).2, again := some ⟨1, mi xi, false⟩, next := 8 }) := by
    unfold cq; rw [if_neg (by omega), if_pos e, jX, iz]; rfl
  rw [es]
  clear es
  refine aA.open fun Q => ?_
  have iY : ∀ z, aE (bC c R { s with tb := z }) 3 = aE (bC c R s) 3 := fun _ => rfl
  simp only [bW, fP, bf, jX, iz, cd, eC, SL.bU, iY]
  repeat first | refine aa ?_ | intro
  refine af rfl (Spec.eY q P.p (o4 (Q := Q) (k := k) (P := P) h.dy)) ?_
  intro _
  repeat first | refine aa ?_ | intro
  refine aG 99 (NH pn c R * (Obj q 141 (ck f Q) * 1)) rfl rfl rfl ?_
  repeat (first | refine ak ?_ | refine eD ?_)
  refine aC rfl rfl rfl rfl rfl (Spec.uY Q.find R.tb R.pl (yN ja ht hp iE tD)) (fun _ => ab) ?_
  intro _
  repeat (first | refine ak ?_ | refine eD ?_)
  generalize bI s.pl c.nb s.tb t = D at *
  obtain ⟨dc, t'⟩ := D
  dsimp only at *
  cases hd : t'.done with
  | false =>
    rw [if_pos rfl]
    repeat first | refine aa ?_ | intro
    refine ae (cT rfl () rfl (U.sat (aA.bH Q (by rfl) ?_)))
    simp only [iz]
    simp only [cd, gE, eC, ho, j2, lp, SL.bU, Bool.false_eq_true, if_true, if_false]
    exact ab
  | true =>
    rw [if_neg (fun hh => by cases hh)]
    repeat first | refine aa ?_ | intro
    refine af rfl (Spec.aL Q.find q7) ?_
    intro _
    by_cases h0 : t'.end_ = 0
    · rw [if_pos h0]
      repeat first | refine aa ?_ | intro
      refine af rfl (Spec.aL Q.find xr) ?_
      intro _
      repeat first | refine aa ?_ | intro
      refine af rfl (Spec.pre (vf (q := q) (f := { f with find := some t' }) (id := t'.found) (w := t'.aM) (F := bf R.po P k (NH pn c R * (aJ R.pl s.pl * (aF R.tb R.pl c.nb dc * (aE (bC c R s) 3 * F)))))) (aA.bH Q (by rfl) (by simp only [iz]; simp only [cd, gE, eC, ho, j2, lp, SL.bU, Bool.false_eq_true, if_true, if_false]; exact ab))) ?_
      intro _
      repeat first | refine aa ?_ | intro
      exact ae (cT rfl () rfl (U.sat (by rw [← iz]; simp only [bf]; exact ab)))
    · rw [if_neg h0]
      rw [kf (k := k) bj ho, kf (k := k) bj ho, wu (s := s) (G := F) bj]
      repeat first | refine aa ?_ | intro
      refine af rfl (Spec.aL Q.fill (Spec.pre (IV (q := Q.fin) (pc := P.c (aB f.ao.proto)) (ps := Q.fill) (pp := R.po (aB f.ao.proto)) (n := c.np) (h := (k.ca (aB f.ao.proto)).h) (l := (k.ca (aB f.ao.proto)).l) (qo := none) xn xl) (U.cons (U.at Q.fin rfl (U.at (P.c (aB f.ao.proto)) rfl (U.at (R.po (aB f.ao.proto)) rfl (U.refl _))))))) ?_
      intro z
      repeat first | refine aa ?_ | intro
      refine aH (aI rfl () rfl (U.sat (aA.bH { Q with again := z.1, lO := z.2 } (by rfl) ?_)))
      simp only [iz]
      simp only [cd, gE, eC, ho, j2, lp, SL.bU, Bool.false_eq_true, if_true, if_false]
      simp only [ri, SL.bU]
      exact ab
set_option maxHeartbeats 2000000 in
theorem MQ (hT:fU W)(hc:c.Ok)(hk:lL c s k)(h:oH c k f)(e:f.next=8):
  Spec Tryz.prog 116 [.pointer pn,.pointer P.p,.pointer q] W (aA q f*bf R.po P k (NH pn c R*(aJ R.pl s.pl*(aF R.tb R.pl c.nb s.tb*(aE (bC c R s) 3*F))))) (fun _:Unit=> .tuple #[]) (fun _=>fP q pn c R P F (cq c s k f)):=by
 refine Spec.of Tryz.func116 rfl Tryz.ntmps116 rfl ?_
 have ja:=hc.oX
 have cB:=h.fin
 have tc:=cB.proto
 have nK:=h.dy
 have bj:=jb f.ao.proto
 have ho:=hk.out _ bj
 have hw:=hk.words _ bj
 obtain⟨x,iz,x0,xd,se⟩:=h.again e
 obtain⟨xk,xi,xd'⟩:=x
 dsimp only at x0 xd se iz
 subst x0 xd
 have ri:∀(a i:Option Addr) (y:bG) (d:Bool),gk a i ⟨1,y,d⟩=dU a 1 i d*bd i y:=fun _ _ _ _=>rfl
 have es:cq c s k f=(s.eO (aB f.ao.proto) (bz (s.po (aB f.ao.proto)) xi).1,k,
   if(bz (s.po (aB f.ao.proto)) xi).2.done=false then {f with again:=some ⟨1,(bz (s.po (aB f.ao.proto)) xi).2,(bz (s.po (aB f.ao.proto)) xi).2.done⟩}
   else if(bz (s.po (aB f.ao.proto)) xi).2.alike=true then {f with again:=some ⟨1,(bz (s.po (aB f.ao.proto)) xi).2,(bz (s.po (aB f.ao.proto)) xi).2.done⟩}.fin [] 8
   else {f with again:=some ⟨1,(bz (s.po (aB f.ao.proto)) xi).2,(bz (s.po (aB f.ao.proto)) xi).2.done⟩}.rl c k):=by
  unfold cq;rw[if_neg (by omega),if_neg (by omega),if_pos e,iz];dsimp only;rw[CW]
 rw[es]
 clear es
 obtain⟨Ow,YB⟩:=u6 hw se
 refine aA.open fun Q=> ?_
 obtain⟨p1,p2,p3,p4⟩:=qQ s (aB f.ao.proto) (bz (s.po (aB f.ao.proto)) xi).1
 simp only[bW,fP,bf,iz,cd,ri,SL.bU,p1,p2]
 rw[rR (s:=s) bj,wu (s:=s) (G:=F) bj]
 generalize vq:bz (s.po (aB f.ao.proto)) xi=D at*
 rw[kf (k:=k) bj ho,kf (k:=k) bj ho]
 repeat first|refine aa ?_ |intro
 refine af rfl (Spec.eY q P.p (o4 (Q:=Q) (k:=k) (P:=P) h.dy)) ?_
 intro _
 repeat first|refine aa ?_ |intro
 refine af rfl (Spec.aL Q.again (Spec.pre (I9 (pc:=P.c (aB f.ao.proto)) (ps:=Q.again) (sp:=Q.lO) (pp:=R.po (aB f.ao.proto)) (n:=c.np) (qo:=none) (h:=(k.ca (aB f.ao.proto)).h) (l:=(k.ca (aB f.ao.proto)).l) hT hw se) (U.cons (U.at Q.lO rfl (U.at (P.c (aB f.ao.proto)) rfl (U.at (R.po (aB f.ao.proto)) rfl (U.refl _))))))) ?_
 intro _
 rw[vq]
 obtain⟨jN,xD⟩:=D
 dsimp only at*
 cases hd:xD.done with
 |false=>
  rw[if_pos rfl]
  repeat first|refine aa ?_ |intro
  refine ae (cT rfl () rfl (U.sat (aA.bH Q (by rfl) ?_)))
  simp only[iz,cd,SL.bU]
  simp only[ri,SL.bU]
  exact ab
 |true=>
  rw[if_neg (fun hh=>by cases hh)]
  repeat first|refine aa ?_ |intro
  refine af rfl (Spec.eY Q.again Q.lO I2) ?_
  intro _
  cases ha:xD.alike with
  |true=>
   rw[if_pos rfl]
   repeat first|refine aa ?_ |intro
   refine af rfl (Spec.pre (vd (q:=q) (f:={f with again:=some ⟨1,xD,true⟩}) (e:=8) (F:=bf R.po P k (NH pn c R*(aJ R.pl s.pl*(aF R.tb R.pl c.nb s.tb*(aE (bC c R (s.eO (aB f.ao.proto) jN)) 3*F)))))) (aA.bH Q (by rfl) (by simp only[cd,ri,SL.bU,bf];rw[rR (s:=s) bj,kf (k:=k) bj ho];exact ab))) ?_
   intro _
   repeat first|refine aa ?_ |intro
   refine ae (cT rfl () rfl (U.sat ?_))
   simp only[bf];rw[rR (s:=s) bj,kf (k:=k) bj ho]
   exact ab
  |false=>
   rw[if_neg Bool.false_ne_true]
   repeat first|refine aa ?_ |intro
   refine af rfl (Spec.pre (Ga (pn:=pn) (q:=q) (f:={f with again:=some ⟨1,xD,true⟩}) (R:=R) (s:=s.eO (aB f.ao.proto) jN) (k:=k) (P:=P) (F:=NH pn c R*(aJ R.pl s.pl*(aF R.tb R.pl c.nb s.tb*F))) hc nK ho (by rw[Q6 bj];exact Ow)) (aA.bH Q (by rfl) (by simp only[cd,ri,SL.bU,bf];rw[rR (s:=s) bj,kf (k:=k) bj ho];exact ab))) ?_
   intro _
   repeat first|refine aa ?_ |intro
   refine aH (aI rfl () rfl (U.sat ?_))
   simp only[bf];rw[rR (s:=s) bj,kf (k:=k) bj ho]
   exact ab
end
section
open Go.RowKit
set_option maxRecDepth 10000
attribute [local irreducible] EK EX ER EN EL ES EG av aV aY
variable {W:World} {F G:SL} {X:Cx} {kk:List KI} {σ:Env} {pn q:Option Addr} {f:aP} {c:NC} {R:dW} {s:bc} {k:aU} {P:dt} {pp:Nat→Option Addr}
theorem Qz {p:Option Addr}{id:Int}(hc:c.Ok)(hp:cp (3*c.np) s.pl)(h0:0≤id)(h1:id<((3*c.np:Nat):Int))(cB:eH f):Spec Tryz.prog 164 [.pointer p,.int .i64 id,.agg #[.int .i64 (f.ao.proto:Int),.int .u32 (f.ao.addr:Int),.int .u16 (f.ao.port:Int)]] W (aJ p s.pl*F) (fun _:Unit=> .int .i64 0) (fun _=>aJ p (nY s id f.ao).pl*F):=by
 have cg:=hc.np
 have h3:=cB.proto
 have h:=Ke (W:=W) (F:=F) (p:=p) (ws:=s.pl) (n:=3*c.np) (i:=id.toNat) (a:=f.ao.proto) (b:=f.ao.addr) (c:=f.ao.port) hp.len (by omega) (by omega) (by omega) cB.addr cB.port
 rw[show((id.toNat:Nat):Int)=id by omega]at h
 exact h
set_option maxHeartbeats 2000000 in
theorem MM (hc:c.Ok)(hp:cp (3*c.np) s.pl)(hk:lL c s k)(h:oH c k f)(e:f.next=10):
  Spec Tryz.prog 116 [.pointer pn,.pointer P.p,.pointer q] W (aA q f*bf R.po P k (NH pn c R*(aJ R.pl s.pl*(aF R.tb R.pl c.nb s.tb*(aE (bC c R s) 3*F))))) (fun _:Unit=> .tuple #[]) (fun _=>fP q pn c R P F (cq c s k f)):=by
 refine Spec.of Tryz.func116 rfl Tryz.ntmps116 rfl ?_
 have cB:=h.fin
 have nK:=h.dy
 have bj:=jb f.ao.proto
 obtain⟨h0,h1⟩:=h.id (Or.inl e)
 have es:cq c s k f=(nY s f.id f.ao,k,{f with next:=11}):=by unfold cq;rw[if_neg (by omega),if_neg (by omega),if_neg (by omega),if_neg (by omega),if_pos e]
 rw[es]
 clear es
 refine aA.open fun Q=> ?_
 have iY:aE (bC c R (nY s f.id f.ao)) 3=aE (bC c R s) 3:=rfl
 have lX:(nY s f.id f.ao).tb=s.tb:=rfl
 simp only[bW,fP,bf,iY,lX]
 repeat first|refine aa ?_ |intro
 refine af rfl (Spec.eY q P.p (o4 (Q:=Q) (k:=k) (P:=P) h.dy)) ?_
 intro _
 repeat first|refine aa ?_ |intro
 refine aG 12 (NH pn c R*(Obj q 141 (ck f Q)*1)) rfl rfl rfl ?_
 repeat(first|refine ak ?_ |refine eD ?_)
 refine jr rfl rfl rfl rfl (Spec.aL R.pl (Qz (s:=s) hc hp h0 h1 cB)) ?_
 intro _
 repeat(first|refine ak ?_ |refine eD ?_)
 repeat first|refine aa ?_ |intro
 exact aH (aI rfl () rfl (U.sat (aA.bH Q (by rfl) (ab))))
theorem Pa (hp:lu f.ao.proto):ff (f.ao.proto:Int)=((aB f.ao.proto:Nat):Int):=by
 rcases hp with e|e|e<;>rw[e]<;>rfl
set_option maxHeartbeats 2000000 in
theorem MR (hc:c.Ok)(hp:cp (3*c.np) s.pl)(hk:lL c s k)(h:oH c k f)(e:f.next=9):
  Spec Tryz.prog 116 [.pointer pn,.pointer P.p,.pointer q] W (aA q f*bf R.po P k (NH pn c R*(aJ R.pl s.pl*(aF R.tb R.pl c.nb s.tb*(aE (bC c R s) 3*F))))) (fun _:Unit=> .tuple #[]) (fun _=>fP q pn c R P F (cq c s k f)):=by
 refine Spec.of Tryz.func116 rfl Tryz.ntmps116 rfl ?_
 have cB:=h.fin
 have nK:=h.dy
 have bj:=jb f.ao.proto
 have ho:=hk.out _ bj
 have hlen:=h.len
 have Oj:=h.top
 have cg:=hc.np
 have vA:=Pa nK
 have es:cq c s k f=(s,k,{f with id:=((aB f.ao.proto*c.np+kY (k.ca (aB f.ao.proto)):Nat):Int),word:=cb s ((aB f.ao.proto*c.np+kY (k.ca (aB f.ao.proto)):Nat):Int),next:=10}):=by unfold cq;rw[if_neg (by omega),if_neg (by omega),if_neg (by omega),if_pos e]
 rw[es]
 clear es
 refine aA.open fun Q=> ?_
 simp only[bW,fP,bf]
 repeat first|refine aa ?_ |intro
 refine af rfl (Spec.eY q P.p (o4 (Q:=Q) (k:=k) (P:=P) h.dy)) ?_
 intro _
 rw[kf (k:=k) bj ho]
 generalize aB f.ao.proto=kd at*
 repeat first|refine aa ?_ |intro
 refine af rfl (Spec.aL (P.c kd) (Cy (by omega))) ?_
 intro _
 unfold rZ
 have et:(k.ca kd).l.getD ((k.ca kd).l.length-1) 0=kY (k.ca kd):=rfl
 rw[et]
 generalize kY (k.ca kd)=tp at*
 repeat first|refine aa ?_ |intro
 refine aG 16 (NH pn c R*(Obj q 141 (ck f Q)*1)) rfl rfl rfl ?_
 repeat(first|refine ak ?_ |refine aQ 0 rfl rfl rfl rfl (by decide+kernel) (az) rfl ?_ |refine aQ 1 rfl rfl rfl rfl (by decide+kernel) (az) rfl ?_ |refine aQ 2 rfl rfl rfl rfl (by decide+kernel) (az) rfl ?_ |refine aQ 3 rfl rfl rfl rfl (by decide+kernel) (az) rfl ?_)
 refine aC rfl rfl rfl rfl rfl (xF _) (fun _=>ab) ?_
 intro _
 rw[vA]
 have hm:((kd:Int)*(c.np:Int))=((kd*c.np:Nat):Int):=by simp
 have zV:kd*c.np≤2*c.np:=Nat.mul_le_mul_right _ (by omega)
 repeat(first|refine ak ?_ |refine aQ 0 rfl rfl rfl rfl (by decide+kernel) (az) rfl ?_ |refine aQ 1 rfl rfl rfl rfl (by decide+kernel) (az) rfl ?_ |refine aQ 2 rfl rfl rfl rfl (by decide+kernel) (az) rfl ?_ |refine aQ 3 rfl rfl rfl rfl (by decide+kernel) (az) rfl ?_)
 (refine kG rfl (cK rfl rfl rfl rfl rfl rfl) (by decide+kernel) rfl ?_);repeat(first|refine fo rfl rfl rfl (gx rfl rfl) (by decide+kernel) (by decide+kernel) rfl ?_ |refine fo rfl rfl rfl (gw rfl rfl) (by decide+kernel) (by decide+kernel) rfl ?_ |refine kH rfl rfl (cK rfl rfl rfl rfl rfl rfl) (by decide+kernel) (by decide+kernel) rfl ?_ |refine eD ?_)
 rw[show((kd:Int)*(c.np:Int)+(tp:Int))=((kd*c.np+tp:Nat):Int)by rw[hm];simp]
 obtain⟨id,hid⟩:∃id:Int,id=((kd*c.np+tp:Nat):Int):=⟨_,rfl⟩
 have h0:0≤id:=by omega
 have h1:id<((3*c.np:Nat):Int):=by omega
 rw[←hid]
 clear hm zV hid
 repeat first|refine aa ?_ |intro
 obtain⟨g,hg⟩:∃g:aP,g={f with id:=id}:=⟨_,rfl⟩
 have mb:g.id=id:=by rw[hg]
 refine iS (G:=Obj q 141 (ck g Q)*(an 5 1 Q.b.1 f.b.length Q.b.2 (aD f.b)*(bt (cj Q.bR) f.bR*(bt (au Q.find) f.find*(bt (gk Q.fill Q.fin) f.fill*(bt (gk Q.again Q.lO) f.again*(bt (au Q.enter) f.enter*(an 5 1 Q.fi.1 f.fj.length Q.fi.2 (aD f.fj)*(Obj P.p 148 (cS P k)*(aX (P.c kd) (R.po kd) (k.ca kd).h (k.ca kd).l none*(aE (dw (ec R.po P k) kd) 3*(di P.wh k.bb*(fh gD fA P.m k.b9*(an 5 1 P.told.1 k.cR.length P.told.2 (aD k.cR)*(an 93 2 P.ended.1 k.ended.length P.ended.2 (kV k.ended)*(NH pn c R*(aJ R.pl s.pl*(aF R.tb R.pl c.nb s.tb*(aE (bC c R s) 3*F))))))))))))))))))) (by rw[hg];exact ab) ?_
 refine aG 13 (NH pn c R*(Obj q 141 (ck g Q)*1)) rfl rfl rfl ?_
 repeat(first|refine ak ?_ |refine aQ 0 rfl rfl rfl rfl (by decide+kernel) (az) rfl ?_ |refine aQ 1 rfl rfl rfl rfl (by decide+kernel) (az) rfl ?_ |refine aQ 2 rfl rfl rfl rfl (by decide+kernel) (az) rfl ?_ |refine aQ 3 rfl rfl rfl rfl (by decide+kernel) (az) rfl ?_)
 rw[mb]
 refine aC rfl rfl rfl rfl rfl (Spec.aL R.pl (rP hc hp h0 h1)) (fun _=>ab) ?_
 intro _
 repeat(first|refine ak ?_ |refine aQ 0 rfl rfl rfl rfl (by decide+kernel) (az) rfl ?_ |refine aQ 1 rfl rfl rfl rfl (by decide+kernel) (az) rfl ?_ |refine aQ 2 rfl rfl rfl rfl (by decide+kernel) (az) rfl ?_ |refine aQ 3 rfl rfl rfl rfl (by decide+kernel) (az) rfl ?_)
 (refine kG rfl (cK rfl rfl rfl rfl rfl rfl) (by decide+kernel) rfl ?_);repeat(first|refine fo rfl rfl rfl (gx rfl rfl) (by decide+kernel) (by decide+kernel) rfl ?_ |refine fo rfl rfl rfl (gw rfl rfl) (by decide+kernel) (by decide+kernel) rfl ?_ |refine kH rfl rfl (cK rfl rfl rfl rfl rfl rfl) (by decide+kernel) (by decide+kernel) rfl ?_ |refine eD ?_)
 repeat first|refine aa ?_ |intro
 subst hg
 exact aH (aI rfl () rfl (U.sat (aA.bH Q (by rfl) (ab))))
end
section
open Go.RowKit
set_option maxRecDepth 10000
attribute [local irreducible] EK EX ER EN EL ES EG av aV aY
variable {W:World} {F G:SL} {X:Cx} {kk:List KI} {σ:Env} {pn q:Option Addr} {f:aP} {c:NC} {R:dW} {s:bc} {k:aU} {P:dt} {pp:Nat→Option Addr} {pc pw po:Option Addr}
def iJ (f:aP):br:=⟨1,(f.word.gen+1)%65536,j1 f.ao.proto 0 true f.part.flags,f.tick.toNat⟩
set_option maxHeartbeats 2000000 in
theorem QB {h:Nat}{l:List Nat}(hc:c.Ok)(hp:cp (3*c.np) s.pl)(cB:eH f)(h0:0≤f.id)(h1:f.id<((3*c.np:Nat):Int))(hw:f.word.ok)(hl:l.length≤100000):
  Spec Tryz.prog 165 [.pointer pn,.pointer pc,.pointer pw,.pointer q] W (aA q f*(NH pn c R*(aJ R.pl s.pl*(aF R.tb R.pl c.nb s.tb*(aX pc po h l none*F))))) (fun _:Unit=> .tuple #[])
   (fun _=>aA q (if iX s f.id f.word (iJ f)=true then {f with word:=iJ f,made:=true,qH:=f.id.toNat,enter:=some (kA c 1 f.ao f.id 0),next:=12}else {f with next:=9})*(NH pn c R*(aJ R.pl (bV s f.id f.word (iJ f)).pl*(aF R.tb R.pl c.nb s.tb*(aX pc po h (if iX s f.id f.word (iJ f)=true then l.take (l.length-1)else l) none*F))))):=by
 refine Spec.of Tryz.func165 rfl Tryz.ntmps165 rfl ?_
 have ja:=hc.oX
 have tc:=cB.proto
 have Eh:=cB.flags
 have hg:=hw.2.1
 have tE:((f.tick.toNat:Nat):Int)=f.tick:=by have:=cB.tick;omega
 have hL:wL (iJ f) []=[.int .i64 1,.int .i64 (bits .and .i64 ((f.word.gen:Int)+1) 65535),.int .i64 (j1 f.ao.proto 0 true f.part.flags:Int),.int .i64 f.tick]:=by
  show [Value.int .i64 1,.int .i64 (((f.word.gen+1)%65536:Nat):Int),.int .i64 (j1 f.ao.proto 0 true f.part.flags:Int),.int .i64 (f.tick.toNat:Int)]=_
  rw[tE,DO hg]
 have fz:(iJ f).ok:=⟨by show 1≤3;decide,by show(f.word.gen+1)%65536≤65535;omega,by have:=AO (proto:=f.ao.proto) (s:=0) (flags:=f.part.flags) (out:=true) (by decide);show j1 f.ao.proto 0 true f.part.flags≤_;omega,by show f.tick.toNat≤4294967295;have:=cB.tick;omega⟩
 refine aA.open fun Q=> ?_
 simp only[bW]
 refine pV ?_
 refine mq (γ:=Option Addr) (fun _=>True) (fun y=>[(0,.pointer pn),(1,.pointer pc),(2,.pointer pw),(3,.pointer q),(8,.pointer y)]) (fun y=>Obj y 139 (wL (iJ f) [])*bW q f Q (NH pn c R*(aJ R.pl s.pl*(aF R.tb R.pl c.nb s.tb*(aX pc po h l none*F))))) ?_ ?_
 ·repeat first|refine aa ?_ |intro
  refine aG 24 (NH pn c R*(Obj q 141 (ck f Q)*1)) rfl rfl rfl ?_
  repeat(first|refine ak ?_ |refine eD ?_)
  refine oE (i:=17) (j:=23) (pS rfl rfl rfl rfl (xJ f.ao.proto 0 f.part.flags true (by decide) Eh tc) (fun _=>ab) ?_) (pT rfl rfl (nm rfl) rfl (fun _=>ab) ?_)
  ·intro _
   repeat(first|refine bJ ?_ |(refine bN ?_;intro)|refine bK ?_ |refine bL ?_ |refine bM ?_ |refine eD ?_)
   rename_i y
   repeat first|refine aa ?_ |intro
   exact fv y trivial ⟨rfl,rfl,rfl,rfl,rfl,trivial⟩ (U.sat (by rw[hL];exact ab))
  ·intro y
   refine aC rfl rfl rfl rfl rfl (xJ f.ao.proto 0 f.part.flags true (by decide) Eh tc) (fun _=>ab) ?_
   intro _
   repeat(first|refine bJ ?_ |(refine bN ?_;intro)|refine bK ?_ |refine bL ?_ |refine bM ?_ |refine eD ?_)
   repeat first|refine aa ?_ |intro
   exact fv y trivial ⟨rfl,rfl,rfl,rfl,rfl,trivial⟩ (U.sat (by rw[hL];exact ab))
 intro y _
 clear hL
 generalize iJ f=w at*
 simp only[bW]
 repeat first|refine aa ?_ |intro
 refine aG 99 (Obj y 139 (wL w [])*(NH pn c R*(Obj q 141 (ck f Q)*1))) rfl rfl rfl ?_
 repeat(first|refine ak ?_ |refine eD ?_)
 refine aC rfl rfl rfl rfl rfl (Spec.aL R.pl (rN (id:=f.id) (a:=f.word) (b:=w) hc hp h0 h1 hw fz)) (fun _=>ab) ?_
 intro _
 repeat(first|refine ak ?_ |refine eD ?_)
 cases iy:iX s f.id f.word w with
 |false=>
  rw[if_neg Bool.false_ne_true,if_neg Bool.false_ne_true]
  repeat first|refine aa ?_ |intro
  exact ae (cT rfl () rfl (U.sat (aA.bH Q (by rfl) (ab))))
 |true=>
  rw[if_pos rfl,if_pos rfl]
  repeat first|refine aa ?_ |intro
  refine af rfl (Spec.aL pc (J5 hl)) ?_
  intro _
  repeat first|refine aa ?_ |intro
  refine aG 10 (Obj y 139 (wL w [])*(Obj q 141 (ck f Q)*1)) rfl rfl rfl ?_
  repeat(first|refine ak ?_ |refine aQ 0 rfl rfl rfl rfl (by decide+kernel) (az) rfl ?_ |refine aQ 1 rfl rfl rfl rfl (by decide+kernel) (az) rfl ?_ |refine aQ 2 rfl rfl rfl rfl (by decide+kernel) (az) rfl ?_ |refine aQ 3 rfl rfl rfl rfl (by decide+kernel) (az) rfl ?_)
  (refine kG rfl (cK rfl rfl rfl rfl rfl rfl) (by decide+kernel) rfl ?_);repeat(first|refine fo rfl rfl rfl (gx rfl rfl) (by decide+kernel) (by decide+kernel) rfl ?_ |refine fo rfl rfl rfl (gw rfl rfl) (by decide+kernel) (by decide+kernel) rfl ?_ |refine kH rfl rfl (cK rfl rfl rfl rfl rfl rfl) (by decide+kernel) (by decide+kernel) rfl ?_ |refine eD ?_)
  repeat first|refine aa ?_ |intro
  obtain⟨g,hg⟩:∃g:aP,g={f with word:=w,made:=true,qH:=f.id.toNat}:=⟨_,rfl⟩
  have mb:g.ao=f.ao:=by rw[hg]
  have jA:g.id=f.id:=by rw[hg]
  have vD:((f.id.toNat:Nat):Int)=f.id:=by omega
  refine iS (G:=Obj q 141 (ck g Q)*(an 5 1 Q.b.1 f.b.length Q.b.2 (aD f.b)*(bt (cj Q.bR) f.bR*(bt (au Q.find) f.find*(bt (gk Q.fill Q.fin) f.fill*(bt (gk Q.again Q.lO) f.again*(bt (au Q.enter) f.enter*(an 5 1 Q.fi.1 f.fj.length Q.fi.2 (aD f.fj)*(aX pc po h (l.take (l.length-1)) none*(NH pn c R*(aJ R.pl (bV s f.id f.word w).pl*(aF R.tb R.pl c.nb s.tb*F)))))))))))) (by rw[hg];dsimp only[ck];rw[vD];exact ab) ?_
  refine aG 17 (NH pn c R*(Obj q 141 (ck g Q)*1)) rfl rfl rfl ?_
  repeat(first|refine ak ?_ |refine aQ 0 rfl rfl rfl rfl (by decide+kernel) (az) rfl ?_ |refine aQ 1 rfl rfl rfl rfl (by decide+kernel) (az) rfl ?_ |refine aQ 2 rfl rfl rfl rfl (by decide+kernel) (az) rfl ?_ |refine aQ 3 rfl rfl rfl rfl (by decide+kernel) (az) rfl ?_)
  rw[mb,jA]
  refine aC rfl rfl rfl rfl rfl (Spec.aL R.tb (Kh ja (by omega) cB.addr cB.port)) (fun _=>ab) ?_
  intro z
  repeat(first|refine ak ?_ |refine aQ 0 rfl rfl rfl rfl (by decide+kernel) (az) rfl ?_ |refine aQ 1 rfl rfl rfl rfl (by decide+kernel) (az) rfl ?_ |refine aQ 2 rfl rfl rfl rfl (by decide+kernel) (az) rfl ?_ |refine aQ 3 rfl rfl rfl rfl (by decide+kernel) (az) rfl ?_)
  (refine kG rfl (cK rfl rfl rfl rfl rfl rfl) (by decide+kernel) rfl ?_);repeat(first|refine fo rfl rfl rfl (gx rfl rfl) (by decide+kernel) (by decide+kernel) rfl ?_ |refine fo rfl rfl rfl (gw rfl rfl) (by decide+kernel) (by decide+kernel) rfl ?_ |refine kH rfl rfl (cK rfl rfl rfl rfl rfl rfl) (by decide+kernel) (by decide+kernel) rfl ?_ |refine eD ?_)
  repeat first|refine aa ?_ |intro
  subst hg
  refine aH (aI rfl () rfl (U.sat (aA.bH {Q with enter:=z} (by rfl) ?_)))
  dsimp only[kA]
  simp only[cd]
  exact ab
set_option maxHeartbeats 2000000 in
theorem MN (hc:c.Ok)(hp:cp (3*c.np) s.pl)(hk:lL c s k)(h:oH c k f)(e:f.next=11):
  Spec Tryz.prog 116 [.pointer pn,.pointer P.p,.pointer q] W (aA q f*bf R.po P k (NH pn c R*(aJ R.pl s.pl*(aF R.tb R.pl c.nb s.tb*(aE (bC c R s) 3*F))))) (fun _:Unit=> .tuple #[]) (fun _=>fP q pn c R P F (cq c s k f)):=by
 refine Spec.of Tryz.func116 rfl Tryz.ntmps116 rfl ?_
 have cB:=h.fin
 have nK:=h.dy
 have bj:=jb f.ao.proto
 have ho:=hk.out _ bj
 have hlen:=h.len
 obtain⟨h0,h1⟩:=h.id (Or.inr e)
 have es:cq c s k f=if iX s f.id f.word (iJ f)=true then
   (bV s f.id f.word (iJ f),k.c6 (aB f.ao.proto) {k.ca (aB f.ao.proto)with l:=(k.ca (aB f.ao.proto)).l.take ((k.ca (aB f.ao.proto)).l.length-1)},
    {f with word:=iJ f,made:=true,qH:=f.id.toNat,enter:=some (kA c 1 f.ao f.id 0),next:=12})
  else(s,k,{f with next:=9}):=by unfold cq;rw[if_neg (by omega),if_neg (by omega),if_neg (by omega),if_neg (by omega),if_neg (by omega)];rfl
 rw[es]
 clear es
 have tk:=fun G=>QB (W:=W) (pn:=pn) (pc:=P.c (aB f.ao.proto)) (pw:=P.p) (q:=q) (f:=f) (c:=c) (R:=R) (s:=s) (po:=R.po (aB f.ao.proto)) (h:=(k.ca (aB f.ao.proto)).h) (l:=(k.ca (aB f.ao.proto)).l) (F:=G) hc hp cB h0 h1 h.word (by omega)
 refine aA.open fun Q=> ?_
 simp only[bW,bf]
 repeat first|refine aa ?_ |intro
 refine af rfl (Spec.eY q P.p (o4 (Q:=Q) (k:=k) (P:=P) h.dy)) ?_
 intro _
 rw[kf (k:=k) bj ho]
 generalize Ek:aB f.ao.proto=kd at*
 repeat first|refine aa ?_ |intro
 refine af rfl (Spec.pre (tk (Obj P.p 148 (cS P k)*(aE (dw (ec R.po P k) kd) 3*(di P.wh k.bb*(fh gD fA P.m k.b9*(an 5 1 P.told.1 k.cR.length P.told.2 (aD k.cR)*(an 93 2 P.ended.1 k.ended.length P.ended.2 (kV k.ended)*(aE (bC c R s) 3*F)))))))) (aA.bH Q (by rfl) (ab))) ?_
 intro _
 repeat first|refine aa ?_ |intro
 refine aH (aI rfl () rfl (U.sat ?_))
 cases iy:iX s f.id f.word (iJ f)with
 |false=>
  have ep:bV s f.id f.word (iJ f)=s:=by unfold bV;rw[iy];rfl
  rw[if_neg Bool.false_ne_true,if_neg Bool.false_ne_true,if_neg Bool.false_ne_true,ep]
  simp only[fP,bf]
  rw[kf (k:=k) bj ho]
  exact ab
 |true=>
  rw[if_pos rfl,if_pos rfl,if_pos rfl]
  have lX:(bV s f.id f.word (iJ f)).tb=s.tb:=by unfold bV;split<;>rfl
  have iY:aE (bC c R (bV s f.id f.word (iJ f))) 3=aE (bC c R s) 3:=by unfold bV;split<;>rfl
  obtain⟨h1,h2,h3,h4,h5,h6,h7,h8⟩:=nX k kd {k.ca kd with l:=(k.ca kd).l.take ((k.ca kd).l.length-1)}
  simp only[fP,bf,cS,h1,h2,h3,h4,h5,h6,h7,h8,lX,iY]
  rw[yW (k:=k) bj]
  simp only[ho,j2,gE]
  exact ab
end
section
open Go.RowKit
set_option maxRecDepth 10000
attribute [local irreducible] EK EX ER EN EL ES EG av aV aY
variable {W:World} {F G:SL} {X:Cx} {kk:List KI} {σ:Env} {pn q:Option Addr} {f:aP} {c:NC} {R:dW} {s:bc} {k:aU} {P:dt} {pp:Nat→Option Addr} {pc pw po:Option Addr}
theorem Qx (hT:fU W)(hc:c.Ok)(hp:cp (3*c.np) s.pl)(ht:cV c.nb (3*c.np) s.tb)(hk:lL c s k)(h:oH c k f)(h6:6≤f.next)(M7:f.next≤11):
  Spec Tryz.prog 116 [.pointer pn,.pointer P.p,.pointer q] W (aA q f*bf R.po P k (NH pn c R*(aJ R.pl s.pl*(aF R.tb R.pl c.nb s.tb*(aE (bC c R s) 3*F))))) (fun _:Unit=> .tuple #[]) (fun _=>fP q pn c R P F (cq c s k f)):=by
 rcases(show f.next=6∨f.next=7∨f.next=8∨f.next=9∨f.next=10∨f.next=11 by omega)with e|e|e|e|e|e
 ·exact MO hT hc hk h e
 ·exact MP hc hp ht hk h e
 ·exact MQ hT hc hk h e
 ·exact MR hc hp hk h e
 ·exact MM hc hp hk h e
 ·exact MN hc hp hk h e
theorem AP (hc:c.Ok){i:Nat}(hi:i<3*c.np):qM c.cfg (i:Int)=(((jG (i/c.np):Nat):Int),(c.lo:Int)+((i%c.np:Nat):Int)):=by
 have hp:=hc.bo
 unfold qM
 rw[hp,if_neg (by omega),←Int.natCast_ediv,←Int.natCast_emod]
 generalize i/c.np=a
 unfold jh jG
 rcases a with _|_|a
 ·rfl
 ·rfl
 ·rw[if_neg (by omega),if_neg (by omega),if_neg (by omega),if_neg (by omega)];rfl
theorem yS (k:aU)(p:Nat)(id:Int)(w:br)(t:Int):iW k p id w t={k with bb:=(iW k p id w t).bb}:=by
 unfold iW
 split
 ·split<;>rfl
 ·split<;>rfl
theorem Pp (proto s:Nat):ly proto s≤7440:=by
 unfold ly
 split
 ·omega
 ·split
  ·omega
  ·split
   ·split<;>omega
   ·omega
set_option maxHeartbeats 2000000 in
theorem Qr {id:Int}{w:br}{t:Int}(hc:c.Ok)(h0:0≤id)(h1:id<((3*c.np:Nat):Int))(hw:w.sn≤4294967295)(tF:w.tr≤4)(ht:0≤t∧t≤4294967295)(hg:lj k.bb)(hn:k.bb.all.length≤1000)(EO:k.bb.aK≤1000000):
  Spec Tryz.prog 166 [.pointer pn,.pointer P.p,.int .i64 id,hJ w,.int .i64 t] W (NH pn c R*(Obj P.p 148 (cS P k)*(di P.wh k.bb*F))) (fun _:Unit=> .tuple #[])
   (fun _=>NH pn c R*(Obj P.p 148 (cS P k)*(di P.wh (iW k (jG (id.toNat/c.np)) id w t).bb*F))):=by
 refine Spec.of Tryz.func166 rfl Tryz.ntmps166 rfl ?_
 obtain⟨i,rfl⟩:∃i:Nat,id=(i:Int):=⟨id.toNat,by omega⟩
 have nN:=AP hc (i:=i) (by omega)
 have hi:((i:Int).toNat)=i:=by omega
 rw[hi]
 have EB:jG (i/c.np)<256:=by unfold jG;split;decide;split<;>decide
 generalize jG (i/c.np)=pr at*
 repeat first|refine aa ?_ |intro
 rename_i y
 refine af rfl (Cm c.cfg hc.fit (i:Int)) ?_
 intro _
 rw[nN]
 dsimp only
 have vB:=Pp pr w.tr
 unfold iW
 by_cases e:pr=6
 ·rw[if_neg (by omega)]
  have e':((pr:Nat):Int)=6:=by omega
  repeat first|refine aa ?_ |intro
  rw[if_pos ht.2]
  rw[show t=((t.toNat:Nat):Int)by omega]
  refine af rfl (Spec.aL P.wh (By P.wh k.bb (i:Int) t.toNat hg (by omega) hn EO)) ?_
  intro _
  repeat first|refine aa ?_ |intro
  rw[show(((t.toNat:Nat):Int).toNat)=t.toNat by omega]
  exact aH (aI rfl () rfl (U.sat (ab)))
 ·rw[if_pos e]
  have e':¬((pr:Nat):Int)=6:=by omega
  repeat first|refine aa ?_ |intro
  refine aG 99 (Obj y 139 (wL w [])*1) rfl rfl rfl ?_
  repeat(first|refine ak ?_ |refine eD ?_)
  refine aC rfl rfl rfl rfl rfl (JM pr w.tr EB tF) (fun _=>ab) ?_
  intro _
  repeat(first|refine ak ?_ |refine eD ?_)
  repeat first|refine aa ?_ |intro
  rw[show((w.sn:Int)+(ly pr w.tr:Int))=((w.sn+ly pr w.tr:Nat):Int)by omega]
  by_cases h2:w.sn+ly pr w.tr≤4294967295
  ·rw[if_pos h2]
   refine af rfl (Spec.aL P.wh (By P.wh k.bb (i:Int) (w.sn+ly pr w.tr) hg (by omega) hn EO)) ?_
   intro _
   repeat first|refine aa ?_ |intro
   exact aH (aI rfl () rfl (U.sat (ab)))
  ·rw[if_neg h2]
   refine af rfl (Spec.aL P.wh (IU P.wh k.bb (i:Int) ((w.sn+ly pr w.tr:Nat):Int) (by omega))) ?_
   intro _
   repeat first|refine aa ?_ |intro
   exact aH (aI rfl () rfl (U.sat (ab)))
end
section
open Go.RowKit
set_option maxRecDepth 10000
attribute [local irreducible] EK EX ER EN EL ES EG av aV aY
variable {W:World} {F G:SL} {X:Cx} {kk:List KI} {σ:Env} {pn q:Option Addr} {f:aP} {c:NC} {R:dW} {s:bc} {k:aU} {P:dt} {pp:Nat→Option Addr} {pc pw po:Option Addr}
instance :Ct Tryz.prog 145 3 103:=⟨by kernel_rfl⟩
theorem GH:∀ {l:List (Int×dE)} {i:Int} {v:dE},(l.map (·.1)).Nodup→jj l i v=gX l i v
 |[],i,v,_=>rfl
 |p::l,i,v,h=>by
  have h1:(p.1∉l.map (·.1))∧(l.map (·.1)).Nodup:=List.nodup_cons.1 h
  have ih:=GH (i:=i) (v:=v) h1.2
  unfold jj
  unfold gX
  by_cases e:p.1=i
  ·rw[if_pos e,if_pos (by simp[e])]
   have hn:∀x∈l,¬x.1=i:=fun x hx hh=>h1.1 (List.mem_map.2 ⟨x,hx,by rw[hh,e]⟩)
   rw[List.map_cons,if_pos e]
   congr 1
   symm
   conv=>rhs;rw[←List.map_id l]
   exact List.map_congr_left fun x hx=>by rw[if_neg (hn x hx)];rfl
  ·rw[if_neg e]
   by_cases ha:l.any (fun p=>decide (p.1=i))=true
   ·rw[if_pos (by simp only[List.any_cons,ha,Bool.or_true])]
    rw[List.map_cons,if_neg e,ih]
    unfold gX
    rw[if_pos ha]
   ·rw[if_neg (by simp only[List.any_cons,e,decide_false,Bool.false_or];exact ha)]
    rw[ih]
    unfold gX
    rw[if_neg ha]
    rfl
structure so (c:NC)(k:aU)(f:aP):Prop where
 fin:eH f
 dy:lu f.ao.proto
 enter:f.next=12→∃t,f.enter=some t∧ba c.nb (3*c.np) t∧t.done=false
 back:f.next=14→∃t,f.enter=some t
 id:0≤f.id∧f.id<((3*c.np:Nat):Int)
 word:f.word.ok
 tr:f.word.tr≤4
 bb:lj k.bb
 all:k.bb.all.length≤1000
 aK:k.bb.aK≤1000000
 keys:(k.b9.map (·.1)).Nodup
 room:f.next=14→(k.ca (aB f.ao.proto)).l.length<16
set_option maxHeartbeats 2000000 in
theorem Md (hc:c.Ok)(hp:cp (3*c.np) s.pl)(ht:cV c.nb (3*c.np) s.tb)(h:so c k f)(e:f.next=12):
  Spec Tryz.prog 117 [.pointer pn,.pointer P.p,.pointer q] W (aA q f*bf R.po P k (NH pn c R*(aJ R.pl s.pl*(aF R.tb R.pl c.nb s.tb*(aE (bC c R s) 3*F))))) (fun _:Unit=> .tuple #[]) (fun _=>fP q pn c R P F (e9 c s k f)):=by
 refine Spec.of Tryz.func117 rfl Tryz.ntmps117 rfl ?_
 have ja:=hc.oX
 obtain⟨t,jX,iE,tD⟩:=h.enter e
 have es:e9 c s k f=({s with tb:=(bI s.pl c.nb s.tb t).1},k,if(bI s.pl c.nb s.tb t).2.done=false then {f with enter:=some (bI s.pl c.nb s.tb t).2}else {f with enter:=some (bI s.pl c.nb s.tb t).2,next:=if(bI s.pl c.nb s.tb t).2.end_=0 then 13 else 14}):=by
  unfold e9;rw[if_pos e,jX]
 rw[es]
 clear es
 refine aA.open fun Q=> ?_
 have iY:∀z,aE (bC c R {s with tb:=z}) 3=aE (bC c R s) 3:=fun _=>rfl
 simp only[bW,fP,bf,jX,cd,SL.bU,iY]
 repeat first|refine aa ?_ |intro
 refine aG 99 (NH pn c R*(Obj q 141 (ck f Q)*1)) rfl rfl rfl ?_
 repeat(first|refine ak ?_ |refine eD ?_)
 refine aC rfl rfl rfl rfl rfl (Spec.uY Q.enter R.tb R.pl (yN ja ht hp iE tD)) (fun _=>ab) ?_
 intro _
 repeat(first|refine ak ?_ |refine eD ?_)
 generalize bI s.pl c.nb s.tb t=D at*
 obtain⟨dc,t'⟩:=D
 dsimp only at*
 cases hd:t'.done with
 |false=>
  rw[if_pos rfl]
  repeat first|refine aa ?_ |intro
  refine ae (cT rfl () rfl (U.sat (aA.bH Q (by rfl) ?_)))
  simp only[cd]
  exact ab
 |true=>
  rw[if_neg (fun hh=>by cases hh)]
  repeat first|refine aa ?_ |intro
  refine af rfl (Spec.aL Q.enter q7) ?_
  intro _
  by_cases h0:t'.end_=0
  ·rw[if_pos h0]
   repeat first|refine aa ?_ |intro
   refine aH (aI rfl () rfl (U.sat (aA.bH Q (by rfl) ?_)))
   simp only[cd]
   exact ab
  ·rw[if_neg h0]
   repeat first|refine aa ?_ |intro
   refine aH (aI rfl () rfl (U.sat (aA.bH Q (by rfl) ?_)))
   simp only[cd]
   exact ab
set_option maxHeartbeats 2000000 in
theorem Me (hc:c.Ok)(hp:cp (3*c.np) s.pl)(h:so c k f)(e:f.next=13):
  Spec Tryz.prog 117 [.pointer pn,.pointer P.p,.pointer q] W (aA q f*bf R.po P k (NH pn c R*(aJ R.pl s.pl*(aF R.tb R.pl c.nb s.tb*(aE (bC c R s) 3*F))))) (fun _:Unit=> .tuple #[]) (fun _=>fP q pn c R P F (e9 c s k f)):=by
 refine Spec.of Tryz.func117 rfl Tryz.ntmps117 rfl ?_
 have cB:=h.fin
 have iG:=h.word
 obtain⟨h0,h1⟩:=h.id
 have es:e9 c s k f=(bV s f.id f.word {f.word with st:=2},iW {k with b9:=gX k.b9 f.id f.ao} (jG (f.id.toNat/c.np)) f.id f.word f.tick,f.goes c f.id):=by
  unfold e9;rw[if_neg (by omega),if_pos e]
 rw[es,yS]
 clear es
 obtain⟨wh,EU⟩:∃wh,wh=(iW {k with b9:=gX k.b9 f.id f.ao} (jG (f.id.toNat/c.np)) f.id f.word f.tick).bb:=⟨_,rfl⟩
 have NW:∀G,Spec Tryz.prog 166 [.pointer pn,.pointer P.p,.int .i64 f.id,hJ f.word,.int .i64 f.tick] W (NH pn c R*(Obj P.p 148 (cS P k)*(di P.wh k.bb*G))) (fun _:Unit=> .tuple #[]) (fun _=>NH pn c R*(Obj P.p 148 (cS P k)*(di P.wh wh*G))):=fun G=>by
  rw[EU]
  exact Qr (W:=W) (pn:=pn) (R:=R) (P:=P) (k:={k with b9:=gX k.b9 f.id f.ao}) (F:=G) hc h0 h1 iG.2.2.2 h.tr cB.tick h.bb h.all h.aK
 rw[←EU]
 have L4:aE (ec R.po P {k with b9:=gX k.b9 f.id f.ao,bb:=wh}) 3=aE (ec R.po P k) 3:=rfl
 have qE:({f.word with st:=2}:br).ok:=⟨by show 2≤3;decide,iG.2.1,iG.2.2.1,iG.2.2.2⟩
 have lX:(bV s f.id f.word {f.word with st:=2}).tb=s.tb:=by unfold bV;split<;>rfl
 have iY:aE (bC c R (bV s f.id f.word {f.word with st:=2})) 3=aE (bC c R s) 3:=by unfold bV;split<;>rfl
 refine aA.open fun Q=> ?_
 simp only[bW,fP,bf,lX,iY,L4]
 repeat first|refine aa ?_ |intro
 rename_i y
 repeat first|refine aa ?_ |intro
 refine aG 99 (Obj y 139 (wL {f.word with st:=2} [])*(NH pn c R*(Obj q 141 (ck f Q)*1))) rfl rfl rfl ?_
 repeat(first|refine ak ?_ |refine eD ?_)
 refine aC rfl rfl rfl rfl rfl (Spec.aL R.pl (rN (id:=f.id) (a:=f.word) (b:={f.word with st:=2}) hc hp h0 h1 iG qE)) (fun _=>ab) ?_
 intro _
 repeat(first|refine ak ?_ |refine eD ?_)
 repeat first|refine aa ?_ |intro
 refine aG 12 (Obj P.p 148 (cS P k)*(Obj q 141 (ck f Q)*1)) rfl rfl rfl ?_
 repeat(first|refine ak ?_ |refine eD ?_)
 refine xm rfl (JZ (ek:=gD) (ev:=fA) (k:=f.id) (v:=f.ao) rfl rfl rfl rfl) (by decide+kernel) (by decide+kernel) ?_
 rw[GH h.keys]
 repeat first|refine aa ?_ |intro
 refine aG 99 (NH pn c R*(Obj q 141 (ck f Q)*1)) rfl rfl rfl ?_
 repeat(first|refine ak ?_ |refine eD ?_)
 refine aC rfl rfl rfl rfl rfl (Spec.uY pn P.p P.wh (NW _)) (fun _=>ab) ?_
 intro _
 repeat(first|refine ak ?_ |refine eD ?_)
 repeat first|refine aa ?_ |intro
 refine af rfl (Spec.pre (zh (pn:=pn) (q:=q) (f:=f) (R:=R) (id:=f.id) (F:=Obj P.p 148 (cS P k)*(aE (ec R.po P k) 3*(di P.wh wh*(fh gD fA P.m (gX k.b9 f.id f.ao)*(an 5 1 P.told.1 k.cR.length P.told.2 (aD k.cR)*(an 93 2 P.ended.1 k.ended.length P.ended.2 (kV k.ended)*(aJ R.pl (bV s f.id f.word {f.word with st:=2}).pl*(aF R.tb R.pl c.nb s.tb*(aE (bC c R s) 3*F))))))))) hc cB h0 h1) (aA.bH Q (by rfl) (ab))) ?_
 intro _
 repeat first|refine aa ?_ |intro
 exact aH (aI rfl () rfl (U.sat (ab)))
set_option maxHeartbeats 2000000 in
theorem Mf (hc : c.Ok) (hp : cp (3 * c.np) s.pl) (hk : lL c s k) (h : so c k f) (e : f.next = 14) :
    Spec Tryz.prog 117 [.pointer pn, .pointer P.p, .pointer q] W (aA q f * bf R.po P k (NH pn c R * (aJ R.pl s.pl * (aF R.tb R.pl c.nb s.tb * (aE (bC c R s) 3 * F))))) (fun _ : Unit => .tuple #[]) (fun _ => fP q pn c R P F (e9 c s k f)) := by
  refine Spec.of Tryz.func117 rfl Tryz.ntmps117 rfl ?_
  have cB := h.fin
  have iG := h.word
  have nK := h.dy
  have tv := h.room e
  have bj := jb f.ao.proto
  have ho := hk.out _ bj
  obtain ⟨h0, h1⟩ := h.id
  have cg := hc.np
  haveI : Pos c.np := ⟨by omega⟩
  obtain ⟨i, hi⟩ : ∃ i : Nat, f.id = (i : Int) := ⟨f.id.toNat, by omega⟩
  have zQ : f.id.toNat = i := by omega
  obtain ⟨t, jX⟩ := h.back e
  have D4 : (ke c.np (k.ca (aB f.ao.proto)) (i % c.np)).1 = { k.ca (aB f.ao.proto) with l := (k.ca (aB f.ao.proto)).l ++ [i % c.np] } := by
    unfold ke
    rw [if_neg (by rw [AG]; omega)]
  have es : e9 c s k f = (bV s f.id f.word { f.word with st := 0 }, k.c6 (aB f.ao.proto) { k.ca (aB f.ao.proto) with l := (k.ca (aB f.ao.proto)).l ++ [i % c.np] },
        if t.end_ = 10 then { f with made := false }.iA t.found t.aM else { f with made := false }.fin [] 9) := by
    unfold e9; rw [if_neg (by omega), if_neg (by omega), jX, zQ, D4]
  rw [es]
  clear es D4
  have qE : ({ f.word with st := 0 } : br).ok := ⟨by show 0 ≤ 3; decide, iG.2.1, iG.2.2.1, iG.2.2.2⟩
  have lX : (bV s f.id f.word { f.word with st := 0 }).tb = s.tb := by unfold bV; split <;> rfl
  have iY : aE (bC c R (bV s f.id f.word { f.word with st := 0 })) 3 = aE (bC c R s) 3 := by unfold bV; split <;> rfl
  refine aA.open fun Q => ?_
  obtain ⟨k1, k2, k3, k4, k5, k6, k7, k8⟩ := nX k (aB f.ao.proto) { k.ca (aB f.ao.proto) with l := (k.ca (aB f.ao.proto)).l ++ [i % c.np] }
  simp only [bW, fP, bf, cS, k1, k2, k3, k4, k5, k6, k7, k8, lX, iY, jX, cd]
  rw [yW (k := k) bj, kf (k := k) bj ho]
  simp only [ho, j2, gE]
  repeat first | refine aa ?_ | intro
  rename_i y
  refine aG 99 (Obj y 139 (wL { f.word with st := 0 } []) * (NH pn c R * (Obj q 141 (ck f Q) * 1))) rfl rfl rfl ?_
  repeat (first | refine ak ?_ | refine eD ?_)
  refine aC rfl rfl rfl rfl rfl (Spec.aL R.pl (rN (id := f.id) (a := f.word) (b := { f.word with st := 0 }) hc hp h0 h1 iG qE)) (fun _ => ab) ?_
  intro _
  repeat (first | refine ak ?_ | refine eD ?_)
  repeat first | refine aa ?_ | intro
  refine aG 99 (NH pn c R * (Obj q 141 (ck f Q) * (Obj P.p 148 (cS P k) * 1))) rfl rfl rfl ?_
  repeat (first | refine ak ?_ | refine eD ?_)
  refine aC rfl rfl rfl rfl rfl (Spec.eY q P.p (o4 (Q := Q) (k := k) (P := P) h.dy)) (fun _ => ab) ?_
  intro _
  repeat (first | refine ak ?_ | refine eD ?_)
  rw [show (f.id % (c.np : Int)) = ((i % c.np : Nat) : Int) by rw [hi, Int.natCast_emod]]
  refine aC rfl rfl rfl rfl rfl (Spec.aL (P.c (aB f.ao.proto)) (J8 (i % c.np) tv)) (fun _ => ab) ?_
  intro z
  repeat (first | refine ak ?_ | refine eD ?_)
  repeat first | refine aa ?_ | intro
  refine af rfl (Spec.aL Q.enter q7) ?_
  intro _
  by_cases vo : t.end_ = 10
  · rw [if_pos vo]
    repeat first | refine aa ?_ | intro
    refine af rfl (Spec.aL Q.enter xr) ?_
    intro _
    repeat first | refine aa ?_ | intro
    refine af rfl (Spec.pre (vf (q := q) (f := { f with made := false }) (id := t.found) (w := t.aM) (F := Obj P.p 148 (cS P k) * (aX (P.c (aB f.ao.proto)) (R.po (aB f.ao.proto)) (k.ca (aB f.ao.proto)).h ((k.ca (aB f.ao.proto)).l ++ [i % c.np]) none * (aE (dw (ec R.po P k) (aB f.ao.proto)) 3 * (di P.wh k.bb * (fh gD fA P.m k.b9 * (an 5 1 P.told.1 k.cR.length P.told.2 (aD k.cR) * (an 93 2 P.ended.1 k.ended.length P.ended.2 (kV k.ended) * (NH pn c R * (aJ R.pl (bV s f.id f.word { f.word with st := 0 }).pl * (aF R.tb R.pl c.nb s.tb * (aE (bC c R s) 3 * F)))))))))))) (aA.bH Q (by rfl) (by simp only [jX, cd]; exact ab))) ?_
    intro _
    repeat first | refine aa ?_ | intro
    exact ae (cT rfl () rfl (U.sat (by rw [← jX]; exact ab)))
  · rw [if_neg vo]
    repeat first | refine aa ?_ | intro
    refine af rfl (Spec.pre (vd (q := q) (f := { f with made := false }) (e := 9) (F := Obj P.p 148 (cS P k) * (aX (P.c (aB f.ao.proto)) (R.po (aB f.ao.proto)) (k.ca (aB f.ao.proto)).h ((k.ca (aB f.ao.proto)).l ++ [i % c.np]) none * (aE (dw (ec R.po P k) (aB f.ao.proto)) 3 * (di P.wh k.bb * (fh gD fA P.m k.b9 * (an 5 1 P.told.1 k.cR.length P.told.2 (aD k.cR) * (an 93 2 P.ended.1 k.ended.length P.ended.2 (kV k.ended) * (NH pn c R * (aJ R.pl (bV s f.id f.word { f.word with st := 0 }).pl * (aF R.tb R.pl c.nb s.tb * (aE (bC c R s) 3 * F)))))))))))) (aA.bH Q (by rfl) (by simp only [jX, cd]; exact ab))) ?_
    intro _
    repeat first | refine aa ?_ | intro
    exact aH (aI rfl () rfl (U.sat (by rw [← jX]; exact ab)))
theorem Qu (hc:c.Ok)(hp:cp (3*c.np) s.pl)(ht:cV c.nb (3*c.np) s.tb)(hk:lL c s k)(h:so c k f)(vp:12≤f.next)(X8:f.next≤14):
  Spec Tryz.prog 117 [.pointer pn,.pointer P.p,.pointer q] W (aA q f*bf R.po P k (NH pn c R*(aJ R.pl s.pl*(aF R.tb R.pl c.nb s.tb*(aE (bC c R s) 3*F))))) (fun _:Unit=> .tuple #[]) (fun _=>fP q pn c R P F (e9 c s k f)):=by
 rcases(show f.next=12∨f.next=13∨f.next=14 by omega)with e|e|e
 ·exact Md hc hp ht h e
 ·exact Me hc hp h e
 ·exact Mf hc hp hk h e
end
section
open Go.RowKit
set_option maxRecDepth 10000
attribute [local irreducible] EK EX ER EN EL ES EG av aV aY
variable {W:World} {F G:SL} {X:Cx} {kk:List KI} {σ:Env} {pn q:Option Addr} {f:aP} {c:NC} {R:dW} {s:bc} {k:aU} {P:dt} {pp:Nat→Option Addr} {pc pw po:Option Addr}
structure BT (c:NC)(f:aP):Prop where
 fin:eH f
 id:0≤f.id∧f.id<((3*c.np:Nat):Int)
 word:f.word.ok
 now:f.now.ok
 tr:f.word.tr≤4
 addr:f.next=17→f.dm.addr<4294967296
 port:f.next=17→f.dm.port<65536
theorem Gb {p:Option Addr}{id:Int}(hc:c.Ok)(hp:cp (3*c.np) s.pl)(h0:0≤id)(h1:id<((3*c.np:Nat):Int)):Spec Tryz.prog 71 [.pointer p,.int .i64 id] W (aJ p s.pl*F) (fun _:Unit=> .agg #[.int .i64 ((lr (mT s id)).proto:Int),.int .u32 ((lr (mT s id)).addr:Int),.int .u16 ((lr (mT s id)).port:Int)]) (fun _=>aJ p s.pl*F):=by
 have cg:=hc.np
 have h:=yJ (W:=W) (F:=F) (p:=p) (i:=id.toNat) hp.len (by omega) (by omega) hp.w
 rw[show((id.toNat:Nat):Int)=id by omega]at h
 exact h
set_option maxHeartbeats 2000000 in
theorem Qy (hc:c.Ok)(hp:cp (3*c.np) s.pl)(h:BT c f)(X9:15≤f.next)(Ya:f.next≤17):
  Spec Tryz.prog 118 [.pointer pn,.pointer q] W (aA q f*(NH pn c R*(aJ R.pl s.pl*F))) (fun _:Unit=> .tuple #[]) (fun _=>aA q (fX c s f).2*(NH pn c R*(aJ R.pl (fX c s f).1.pl*F))):=by
 refine Spec.of Tryz.func118 rfl Tryz.ntmps118 rfl ?_
 have cB:=h.fin
 have iG:=h.word
 have Ab:=h.now
 have mM:=cB.cH
 have tF:=h.tr
 obtain⟨h0,h1⟩:=h.id
 rcases(show f.next=15∨f.next=16∨f.next=17 by omega)with e|e|e
 ·have es:fX c s f=(s,if(cb s f.id).st≠2 then {f with word:=cb s f.id,next:=16}.fin [] 7 else {f with word:=cb s f.id,next:=16}):=by unfold fX;rw[if_pos e]
  rw[es]
  clear es
  refine aA.open fun Q=> ?_
  simp only[bW]
  repeat first|refine aa ?_ |intro
  refine aG 13 (NH pn c R*(Obj q 141 (ck f Q)*1)) rfl rfl rfl ?_
  repeat(first|refine ak ?_ |refine aQ 0 rfl rfl rfl rfl (by decide+kernel) (az) rfl ?_ |refine aQ 1 rfl rfl rfl rfl (by decide+kernel) (az) rfl ?_ |refine aQ 2 rfl rfl rfl rfl (by decide+kernel) (az) rfl ?_ |refine aQ 3 rfl rfl rfl rfl (by decide+kernel) (az) rfl ?_)
  refine aC rfl rfl rfl rfl rfl (Spec.aL R.pl (rP hc hp h0 h1)) (fun _=>ab) ?_
  intro _
  repeat(first|refine ak ?_ |refine aQ 0 rfl rfl rfl rfl (by decide+kernel) (az) rfl ?_ |refine aQ 1 rfl rfl rfl rfl (by decide+kernel) (az) rfl ?_ |refine aQ 2 rfl rfl rfl rfl (by decide+kernel) (az) rfl ?_ |refine aQ 3 rfl rfl rfl rfl (by decide+kernel) (az) rfl ?_)
  (refine kG rfl (cK rfl rfl rfl rfl rfl rfl) (by decide+kernel) rfl ?_);repeat(first|refine fo rfl rfl rfl (gx rfl rfl) (by decide+kernel) (by decide+kernel) rfl ?_ |refine fo rfl rfl rfl (gw rfl rfl) (by decide+kernel) (by decide+kernel) rfl ?_ |refine kH rfl rfl (cK rfl rfl rfl rfl rfl rfl) (by decide+kernel) (by decide+kernel) rfl ?_ |refine eD ?_)
  generalize cb s f.id=w at*
  by_cases hw:w.st=2
  ·rw[if_neg (by omega)]
   repeat first|refine aa ?_ |intro
   exact aH (aI rfl () rfl (U.sat (aA.bH Q (by rfl) (ab))))
  ·rw[if_pos hw]
   repeat first|refine aa ?_ |intro
   refine af rfl (Spec.pre (vd (q:=q) (f:={f with word:=w,next:=16}) (e:=7) (F:=(NH pn c R*(aJ R.pl s.pl*F)))) (aA.bH Q (by rfl) (ab))) ?_
   intro _
   repeat first|refine aa ?_ |intro
   exact aH (aI rfl () rfl (U.sat (ab)))
 ·have es:fX c s f=(s,{f with dm:=lr (mT s f.id),now:=f.gY f.word,next:=17}):=by unfold fX;rw[if_neg (by omega),if_pos e]
  rw[es]
  clear es
  refine aA.open fun Q=> ?_
  simp only[bW]
  repeat first|refine aa ?_ |intro
  refine aG 20 (NH pn c R*(Obj q 141 (ck f Q)*1)) rfl rfl rfl ?_
  repeat(first|refine ak ?_ |refine aQ 0 rfl rfl rfl rfl (by decide+kernel) (az) rfl ?_ |refine aQ 1 rfl rfl rfl rfl (by decide+kernel) (az) rfl ?_ |refine aQ 2 rfl rfl rfl rfl (by decide+kernel) (az) rfl ?_ |refine aQ 3 rfl rfl rfl rfl (by decide+kernel) (az) rfl ?_)
  refine aC rfl rfl rfl rfl rfl (Spec.aL R.pl (Gb hc hp h0 h1)) (fun _=>ab) ?_
  intro _
  repeat(first|refine ak ?_ |refine aQ 0 rfl rfl rfl rfl (by decide+kernel) (az) rfl ?_ |refine aQ 1 rfl rfl rfl rfl (by decide+kernel) (az) rfl ?_ |refine aQ 2 rfl rfl rfl rfl (by decide+kernel) (az) rfl ?_ |refine aQ 3 rfl rfl rfl rfl (by decide+kernel) (az) rfl ?_)
  refine aC rfl rfl rfl rfl rfl (Spec.aL q (DN (P:=Q) cB tF)) (fun _=>ab) ?_
  intro _
  repeat(first|refine ak ?_ |refine aQ 0 rfl rfl rfl rfl (by decide+kernel) (az) rfl ?_ |refine aQ 1 rfl rfl rfl rfl (by decide+kernel) (az) rfl ?_ |refine aQ 2 rfl rfl rfl rfl (by decide+kernel) (az) rfl ?_ |refine aQ 3 rfl rfl rfl rfl (by decide+kernel) (az) rfl ?_)
  (refine kG rfl (cK rfl rfl rfl rfl rfl rfl) (by decide+kernel) rfl ?_);repeat(first|refine fo rfl rfl rfl (gx rfl rfl) (by decide+kernel) (by decide+kernel) rfl ?_ |refine fo rfl rfl rfl (gw rfl rfl) (by decide+kernel) (by decide+kernel) rfl ?_ |refine kH rfl rfl (cK rfl rfl rfl rfl rfl rfl) (by decide+kernel) (by decide+kernel) rfl ?_ |refine eD ?_)
  repeat first|refine aa ?_ |intro
  generalize f.gY f.word=w
  generalize lr (mT s f.id)=u
  exact aH (aI rfl () rfl (U.sat (aA.bH Q (by rfl) (ab))))
 ·have Ee:=h.addr e
  have td:=h.port e
  refine aA.open fun Q=> ?_
  simp only[bW]
  repeat first|refine aa ?_ |intro
  refine aG 99 (Obj q 141 (ck f Q)*1) rfl rfl rfl ?_
  repeat(first|refine ak ?_ |refine eD ?_)
  rw[Bw]
  by_cases heq:f.now=f.word
  ·have es:fX c s f=(s,if cb s f.id=f.word then {f with next:=15}.fin (jH f.b false f.dm.addr f.dm.port) (ug f.b)else {f with next:=15}):=by unfold fX;rw[if_neg (by omega),if_neg (by omega),if_pos heq]
   rw[es,decide_eq_true heq]
   clear es
   repeat first|refine aa ?_ |intro
   refine aG 99 (NH pn c R*(Obj q 141 (ck f Q)*1)) rfl rfl rfl ?_
   repeat(first|refine ak ?_ |refine eD ?_)
   refine aC rfl rfl rfl rfl rfl (Spec.aL R.pl (rP hc hp h0 h1)) (fun _=>ab) ?_
   intro _
   repeat(first|refine ak ?_ |refine eD ?_)
   rw[Bw]
   by_cases vC:cb s f.id=f.word
   ·rw[if_pos vC,decide_eq_true vC]
    repeat first|refine aa ?_ |intro
    obtain⟨g,hg⟩:∃g:aP,g={f with next:=15}:=⟨_,rfl⟩
    have mb:g.b=f.b:=by rw[hg]
    have jA:g.dm=f.dm:=by rw[hg]
    have pe:g.b.length≤140737488355328:=by rw[mb];exact mM
    refine iS (G:=bW q g Q (NH pn c R*(aJ R.pl s.pl*F))) (by rw[hg];exact ab) ?_
    simp only[bW]
    refine aG 18 (NH pn c R*(Obj q 141 (ck g Q)*1)) rfl rfl rfl ?_
    repeat(first|refine ak ?_ |refine eD ?_)
    refine aC rfl rfl rfl rfl rfl (BU (l:=g.b) pe g.dm.addr g.dm.port (by rw[jA];exact Ee) (by rw[jA];exact td)) (fun _=>ab) ?_
    intro z
    repeat(first|refine ak ?_ |refine eD ?_)
    simp only[sF]
    refine jr rfl rfl rfl rfl (Spec.pre (ve (q:=q) (f:=g) (l:=jH g.b false g.dm.addr g.dm.port) (z:=z) (e:=dv g.b) (F:=NH pn c R*(aJ R.pl s.pl*F))) (U.cons (aA.bH Q (by rfl) (ab)))) ?_
    intro _
    repeat(first|refine ak ?_ |refine eD ?_)
    repeat first|refine aa ?_ |intro
    rw[mb,jA,hg]
    exact aH (aI rfl () rfl (U.sat (ab)))
   ·rw[if_neg vC,decide_eq_false vC]
    repeat first|refine aa ?_ |intro
    exact aH (aI rfl () rfl (U.sat (aA.bH Q (by rfl) (ab))))
  ·have es:fX c s f=(bV s f.id f.word f.now,if iX s f.id f.word f.now=true then {f with next:=15}.fin (jH f.b false f.dm.addr f.dm.port) (ug f.b)else {f with next:=15}):=by unfold fX;rw[if_neg (by omega),if_neg (by omega),if_neg heq]
   rw[es,decide_eq_false heq]
   clear es
   repeat first|refine aa ?_ |intro
   refine aG 99 (NH pn c R*(Obj q 141 (ck f Q)*1)) rfl rfl rfl ?_
   repeat(first|refine ak ?_ |refine eD ?_)
   refine aC rfl rfl rfl rfl rfl (Spec.aL R.pl (rN (id:=f.id) (a:=f.word) (b:=f.now) hc hp h0 h1 iG Ab)) (fun _=>ab) ?_
   intro _
   repeat(first|refine ak ?_ |refine eD ?_)
   cases iy:iX s f.id f.word f.now with
   |true=>
    rw[if_pos rfl]
    repeat first|refine aa ?_ |intro
    obtain⟨g,hg⟩:∃g:aP,g={f with next:=15}:=⟨_,rfl⟩
    have mb:g.b=f.b:=by rw[hg]
    have jA:g.dm=f.dm:=by rw[hg]
    have pe:g.b.length≤140737488355328:=by rw[mb];exact mM
    refine iS (G:=bW q g Q (NH pn c R*(aJ R.pl (bV s f.id f.word f.now).pl*F))) (by rw[hg];exact ab) ?_
    simp only[bW]
    refine aG 18 (NH pn c R*(Obj q 141 (ck g Q)*1)) rfl rfl rfl ?_
    repeat(first|refine ak ?_ |refine eD ?_)
    refine aC rfl rfl rfl rfl rfl (BU (l:=g.b) pe g.dm.addr g.dm.port (by rw[jA];exact Ee) (by rw[jA];exact td)) (fun _=>ab) ?_
    intro z
    repeat(first|refine ak ?_ |refine eD ?_)
    simp only[sF]
    refine jr rfl rfl rfl rfl (Spec.pre (ve (q:=q) (f:=g) (l:=jH g.b false g.dm.addr g.dm.port) (z:=z) (e:=dv g.b) (F:=NH pn c R*(aJ R.pl (bV s f.id f.word f.now).pl*F))) (U.cons (aA.bH Q (by rfl) (ab)))) ?_
    intro _
    repeat(first|refine ak ?_ |refine eD ?_)
    repeat first|refine aa ?_ |intro
    rw[mb,jA,hg]
    exact aH (aI rfl () rfl (U.sat (ab)))
   |false=>
    rw[if_neg Bool.false_ne_true]
    repeat first|refine aa ?_ |intro
    exact aH (aI rfl () rfl (U.sat (aA.bH Q (by rfl) (ab))))
end
section
open Go.RowKit
set_option maxRecDepth 10000
attribute [local irreducible] EK EX ER EN EL ES EG av aV aY
variable {W:World} {F G:SL} {X:Cx} {kk:List KI} {σ:Env} {pn q:Option Addr} {f:aP} {c:NC} {R:dW} {s:bc} {k:aU} {P:dt} {pp:Nat→Option Addr} {pc pw po:Option Addr}
theorem Th {o:Nat}{out:Bool}{l:List UInt8}(h:jL o out l=0):c5 false l=0∧ic (aW l) l=0:=by
 unfold jL at h
 split at h
 ·rename_i h1;exact absurd h h1
 ·rename_i h1
  have h1:=Decidable.not_not.1 h1
  unfold dv at h1
  split at h1
  ·rename_i h2;exact⟨h2,h1⟩
  ·rename_i h2;exact absurd h1 h2
set_option maxHeartbeats 2000000 in
theorem QH {w:Nat}(hc:c.Ok)(mM:f.b.length≤140737488355328)(hw:w<s.gs.length)(hg:s.gs.length≤64):
  Spec Tryz.prog 112 [.pointer pn,.int .i64 (w:Int),.pointer q] W (aA q f*(NH pn c R*(bO R.ep s.ep s.gs*F))) (fun _:Unit=> .tuple #[]) (fun _=>aA q (oa c w f)*(NH pn c R*(bO R.ep s.ep s.gs*F))):=by
 refine Spec.of Tryz.func112 rfl Tryz.ntmps112 rfl ?_
 by_cases ht:f.tick<0∨f.tick>4294967295
 ·have es:oa c w f=f.refuse 1:=by unfold oa;rw[if_pos ht]
  rw[es]
  refine aA.open fun Q=> ?_
  simp only[bW]
  by_cases An:f.tick<0
  ·repeat first|refine aa ?_ |intro
   refine af rfl (Spec.pre (vl (q:=q) (f:=f) (e:=1) (F:=(NH pn c R*(bO R.ep s.ep s.gs*F)))) (aA.bH Q (by rfl) (ab))) ?_
   intro _
   repeat first|refine aa ?_ |intro
   exact ae (cT rfl () rfl (U.sat (ab)))
  ·have rI:f.tick>4294967295:=by omega
   repeat first|refine aa ?_ |intro
   refine af rfl (Spec.pre (vl (q:=q) (f:=f) (e:=1) (F:=(NH pn c R*(bO R.ep s.ep s.gs*F)))) (aA.bH Q (by rfl) (ab))) ?_
   intro _
   repeat first|refine aa ?_ |intro
   exact ae (cT rfl () rfl (U.sat (ab)))
 have An:¬f.tick<0:=by omega
 have rI:¬f.tick>4294967295:=by omega
 have kQ:c.cfg.o.toNat=c.o:=by unfold NC.cfg;dsimp only;omega
 have hW:∀G,∀(p:Option Addr) (cc:Nat) [Src W G p f.b.length (aD f.b)] [Room W G p f.b.length cc],Spec Tryz.prog 141 [.agg c.cfg.cells.toArray,.bool f.out,.slice p f.b.length cc] W G (fun _:Unit=>rV (pQ c.o f.out f.b) (jL c.o f.out f.b)) (fun _=>G):=fun G p cc _ _=>by
  have:=Ko (W:=W) (F:=G) (p:=p) (c:=cc) mM c.cfg (by unfold NC.cfg;dsimp only;omega) f.out
  rw[kQ]at this
  exact this
 have es:oa c w f=if jL c.o f.out f.b≠0 then f.refuse (jL c.o f.out f.b)
 else if f.out=false∧fN c.cfg (da f.out f.b).proto (da f.out f.b).port<0 then
  {f with part:=dY f.b,ao:=da f.out f.b,fq:=lR f.out f.b,id:=fN c.cfg (da f.out f.b).proto (da f.out f.b).port}.refuse 7
 else {f with part:=dY f.b,ao:=da f.out f.b,fq:=lR f.out f.b,id:=if f.out=true then f.id else fN c.cfg (da f.out f.b).proto (da f.out f.b).port,bR:=some ⟨w,false,0,0,false,false⟩,next:=1}:=by
  unfold oa;rw[if_neg ht]
 rw[es]
 clear es
 refine aA.open fun Q=> ?_
 simp only[bW]
 repeat first|refine aa ?_ |intro
 generalize tI:pQ c.o f.out f.b=wt at*
 generalize vR:jL c.o f.out f.b=we at*
 refine mq (γ:=Option Addr) (fun _=>True) (fun y=>[(0,.pointer pn),(1,.int .i64 (w:Int)),(2,.pointer q),(6,.pointer y),(7,.int .i64 (we:Int))]) (fun y=>Obj y 103 (iw wt)*bW q f Q (NH pn c R*(bO R.ep s.ep s.gs*F))) ?_ ?_
 ·refine aG 17 (NH pn c R*(Obj q 141 (ck f Q)*1)) rfl rfl rfl ?_
  repeat(first|refine ak ?_ |refine eD ?_)
  refine oE (i:=12) (j:=16) (pS rfl rfl rfl rfl (hW _ _ _) (fun _=>ab) ?_) (pT rfl rfl (nm rfl) rfl (fun _=>ab) ?_)
  ·intro _
   repeat(first|refine ak ?_ |refine aQ 0 rfl rfl rfl rfl (by decide+kernel) (az) rfl ?_ |refine aQ 1 rfl rfl rfl rfl (by decide+kernel) (az) rfl ?_ |refine aQ 2 rfl rfl rfl rfl (by decide+kernel) (az) rfl ?_ |refine aQ 3 rfl rfl rfl rfl (by decide+kernel) (az) rfl ?_)
   repeat(first|refine bJ ?_ |(refine bN ?_;intro)|refine bK ?_ |refine bL ?_ |refine bM ?_ |refine eD ?_)
   rename_i y
   repeat first|refine aa ?_ |intro
   exact fv y trivial ⟨rfl,rfl,rfl,rfl,rfl,trivial⟩ (U.sat (ab))
  ·intro y
   refine aC rfl rfl rfl rfl rfl (hW _ _ _) (fun _=>ab) ?_
   intro _
   repeat(first|refine ak ?_ |refine aQ 0 rfl rfl rfl rfl (by decide+kernel) (az) rfl ?_ |refine aQ 1 rfl rfl rfl rfl (by decide+kernel) (az) rfl ?_ |refine aQ 2 rfl rfl rfl rfl (by decide+kernel) (az) rfl ?_ |refine aQ 3 rfl rfl rfl rfl (by decide+kernel) (az) rfl ?_)
   repeat(first|refine bJ ?_ |(refine bN ?_;intro)|refine bK ?_ |refine bL ?_ |refine bM ?_ |refine eD ?_)
   repeat first|refine aa ?_ |intro
   exact fv y trivial ⟨rfl,rfl,rfl,rfl,rfl,trivial⟩ (U.sat (ab))
 intro y _
 simp only[bW]
 by_cases h0:we=0
 ·rw[if_neg (fun hh=>hh h0)]
  have tt:=Th (vR.trans h0)
  have eW:wt=da f.out f.b:=by rw[←tI];unfold pQ;rw[vR,if_pos h0]
  rw[h0]at vR
  have tl:=HD f.out f.b
  rw[←eW]at tl
  rw[←eW]
  clear tI vR hW eW
  repeat first|refine aa ?_ |intro
  refine af rfl (zz mM) ?_
  intro _
  rw[kl tt.1,tt.1,if_pos rfl]
  have NB:=ni.of tt.1
  have L8:mg (aW f.b) f.b=dY f.b:=if_pos tt.2
  have Ez:=fun G (p:Option Addr) (cc:Nat) [Src W G p f.b.length (aD f.b)] [Room W G p f.b.length cc]=>AV (W:=W) (F:=G) (p:=p) (c:=cc) (aW f.b) NB
  rw[L8,tt.2]at Ez
  generalize aW f.b=hd at*
  generalize dY f.b=pt at*
  generalize qt:lR f.out f.b=bg at*
  repeat first|refine aa ?_ |intro
  rename_i x
  refine aG 12 (Obj x 132 (cr hd)*(Obj q 141 (ck f Q)*1)) rfl rfl rfl ?_
  repeat(first|refine ak ?_ |refine aQ 0 rfl rfl rfl rfl (by decide+kernel) (az) rfl ?_ |refine aQ 1 rfl rfl rfl rfl (by decide+kernel) (az) rfl ?_ |refine aQ 2 rfl rfl rfl rfl (by decide+kernel) (az) rfl ?_ |refine aQ 3 rfl rfl rfl rfl (by decide+kernel) (az) rfl ?_)
  refine aC rfl rfl rfl rfl rfl (Ez _ _ _) (fun _=>ab) ?_
  intro _
  repeat(first|refine ak ?_ |refine aQ 0 rfl rfl rfl rfl (by decide+kernel) (az) rfl ?_ |refine aQ 1 rfl rfl rfl rfl (by decide+kernel) (az) rfl ?_ |refine aQ 2 rfl rfl rfl rfl (by decide+kernel) (az) rfl ?_ |refine aQ 3 rfl rfl rfl rfl (by decide+kernel) (az) rfl ?_)
  (refine kG rfl (cK rfl rfl rfl rfl rfl rfl) (by decide+kernel) rfl ?_);repeat(first|refine fo rfl rfl rfl (gx rfl rfl) (by decide+kernel) (by decide+kernel) rfl ?_ |refine fo rfl rfl rfl (gw rfl rfl) (by decide+kernel) (by decide+kernel) rfl ?_ |refine kH rfl rfl (cK rfl rfl rfl rfl rfl rfl) (by decide+kernel) (by decide+kernel) rfl ?_ |refine eD ?_)
  repeat first|refine aa ?_ |intro
  obtain⟨g,qy⟩:∃g:aP,g={f with part:=pt}:=⟨_,rfl⟩
  have qx:g.b=f.b:=by rw[qy]
  have zN:g.out=f.out:=by rw[qy]
  have D1:=fun G (p:Option Addr) (cc:Nat) [Src W G p g.b.length (aD g.b)] [Room W G p g.b.length cc]=>IW (W:=W) (F:=G) (p:=p) (c:=cc) (l:=g.b) (by rw[qx];exact mM) g.out
  have Nk:lR g.out g.b=bg:=by rw[zN,qx,qt]
  rw[Nk]at D1
  refine iS (G:=Obj y 103 (iw wt)*bW q g Q (NH pn c R*(bO R.ep s.ep s.gs*F))) (by rw[qy];exact ab) ?_
  simp only[bW]
  refine aG 14 (Obj y 103 (iw wt)*(Obj q 141 (ck g Q)*1)) rfl rfl rfl ?_
  repeat(first|refine ak ?_ |refine aQ 0 rfl rfl rfl rfl (by decide+kernel) (az) rfl ?_ |refine aQ 1 rfl rfl rfl rfl (by decide+kernel) (az) rfl ?_ |refine aQ 2 rfl rfl rfl rfl (by decide+kernel) (az) rfl ?_ |refine aQ 3 rfl rfl rfl rfl (by decide+kernel) (az) rfl ?_)
  refine aC rfl rfl rfl rfl rfl (D1 _ _ _) (fun _=>ab) ?_
  intro _
  repeat(first|refine ak ?_ |refine aQ 0 rfl rfl rfl rfl (by decide+kernel) (az) rfl ?_ |refine aQ 1 rfl rfl rfl rfl (by decide+kernel) (az) rfl ?_ |refine aQ 2 rfl rfl rfl rfl (by decide+kernel) (az) rfl ?_ |refine aQ 3 rfl rfl rfl rfl (by decide+kernel) (az) rfl ?_)
  (refine kG rfl (cK rfl rfl rfl rfl rfl rfl) (by decide+kernel) rfl ?_);repeat(first|refine fo rfl rfl rfl (gx rfl rfl) (by decide+kernel) (by decide+kernel) rfl ?_ |refine fo rfl rfl rfl (gw rfl rfl) (by decide+kernel) (by decide+kernel) rfl ?_ |refine kH rfl rfl (cK rfl rfl rfl rfl rfl rfl) (by decide+kernel) (by decide+kernel) rfl ?_ |refine eD ?_)
  repeat first|refine aa ?_ |intro
  obtain⟨g2,jA⟩:∃g2:aP,g2={g with ao:=wt,fq:=bg}:=⟨_,rfl⟩
  have Yq:g2.out=f.out:=by rw[jA,qy]
  refine iS (G:=Obj y 103 (iw wt)*bW q g2 Q (NH pn c R*(bO R.ep s.ep s.gs*F))) (by rw[jA];exact ab) ?_
  simp only[bW]
  rcases Bool.eq_false_or_eq_true f.out with ho|ho
  ·rw[if_neg (fun hh=>by rw[ho]at hh;cases hh.1),if_pos ho]
   rw[zN.trans ho]
   repeat first|refine aa ?_ |intro
   refine af rfl (Spec.aL R.ep (BL hw hg)) ?_
   intro z
   repeat first|refine aa ?_ |intro
   subst jA qy
   refine aH (aI rfl () rfl (U.sat (aA.bH {Q with bR:=z} (by rfl) ?_)))
   simp only[cd]
   exact ab
  ·rw[zN.trans ho]
   have Ov:gJ ((wt.port:Nat):Int):=by unfold gJ;have:=tl.2.2;omega
   repeat first|refine aa ?_ |intro
   refine aG 13 (Obj y 103 (iw wt)*(NH pn c R*(Obj q 141 (ck g2 Q)*1))) rfl rfl rfl ?_
   repeat(first|refine ak ?_ |refine aQ 0 rfl rfl rfl rfl (by decide+kernel) (az) rfl ?_ |refine aQ 1 rfl rfl rfl rfl (by decide+kernel) (az) rfl ?_ |refine aQ 2 rfl rfl rfl rfl (by decide+kernel) (az) rfl ?_ |refine aQ 3 rfl rfl rfl rfl (by decide+kernel) (az) rfl ?_)
   refine aC rfl rfl rfl rfl rfl (sD c.cfg hc.fit wt.proto wt.port Ov) (fun _=>ab) ?_
   intro _
   repeat(first|refine ak ?_ |refine aQ 0 rfl rfl rfl rfl (by decide+kernel) (az) rfl ?_ |refine aQ 1 rfl rfl rfl rfl (by decide+kernel) (az) rfl ?_ |refine aQ 2 rfl rfl rfl rfl (by decide+kernel) (az) rfl ?_ |refine aQ 3 rfl rfl rfl rfl (by decide+kernel) (az) rfl ?_)
   (refine kG rfl (cK rfl rfl rfl rfl rfl rfl) (by decide+kernel) rfl ?_);repeat(first|refine fo rfl rfl rfl (gx rfl rfl) (by decide+kernel) (by decide+kernel) rfl ?_ |refine fo rfl rfl rfl (gw rfl rfl) (by decide+kernel) (by decide+kernel) rfl ?_ |refine kH rfl rfl (cK rfl rfl rfl rfl rfl rfl) (by decide+kernel) (by decide+kernel) rfl ?_ |refine eD ?_)
   generalize fN c.cfg wt.proto wt.port=ip at*
   by_cases td:ip<0
   ·rw[if_pos ⟨ho,td⟩]
    repeat first|refine aa ?_ |intro
    refine af rfl (Spec.pre (vl (q:=q) (f:={g2 with id:=ip}) (e:=7) (F:=(NH pn c R*(bO R.ep s.ep s.gs*F)))) (aA.bH Q (by rfl) (ab))) ?_
    intro _
    repeat first|refine aa ?_ |intro
    subst jA qy
    exact ae (cT rfl () rfl (U.sat (ab)))
   ·rw[if_neg (fun hh=>td hh.2),if_neg (fun hh=>by rw[ho]at hh;cases hh)]
    repeat first|refine aa ?_ |intro
    refine af rfl (Spec.aL R.ep (BL hw hg)) ?_
    intro z
    repeat first|refine aa ?_ |intro
    subst jA qy
    refine aH (aI rfl () rfl (U.sat (aA.bH {Q with bR:=z} (by rfl) ?_)))
    simp only[cd]
    exact ab
 ·rw[if_pos h0]
  repeat first|refine aa ?_ |intro
  refine af rfl (Spec.pre (vl (q:=q) (f:=f) (e:=we) (F:=(NH pn c R*(bO R.ep s.ep s.gs*F)))) (aA.bH Q (by rfl) (ab))) ?_
  intro _
  repeat first|refine aa ?_ |intro
  exact ae (cT rfl () rfl (U.sat (ab)))
end
section
open Go.RowKit
set_option maxRecDepth 10000
attribute [local irreducible] EK EX ER EN EL ES EG av aV aY
variable {W:World} {F G:SL} {X:Cx} {kk:List KI} {σ:Env} {pn q:Option Addr} {f:aP} {c:NC} {R:dW} {s:bc} {k:aU} {P:dt} {pp:Nat→Option Addr} {pc pw po:Option Addr}
theorem ie (s:bc)(id:Int)(a b:br):(bV s id a b).ep=s.ep∧(bV s id a b).gs=s.gs∧(bV s id a b).tb=s.tb∧(bV s id a b).p0=s.p0∧(bV s id a b).p1=s.p1∧(bV s id a b).p2=s.p2:=by
 unfold bV
 split<;>exact⟨rfl,rfl,rfl,rfl,rfl,rfl⟩
theorem Pf:(fB c s k f).1.ep=s.ep∧(fB c s k f).1.gs=s.gs:=by
 unfold fB
 repeat' split
 all_goals first|exact⟨rfl,rfl⟩|exact⟨(ie _ _ _ _).1,(ie _ _ _ _).2.1⟩
theorem Pg:aE (bC c R (fB c s k f).1) 3=aE (bC c R s) 3:=by
 unfold fB
 repeat' split
 all_goals first|rfl|(unfold bV;split<;>rfl)
theorem MS:(cq c s k f).1.ep=s.ep∧(cq c s k f).1.gs=s.gs:=by
 unfold cq
 repeat' split
 all_goals first|exact⟨rfl,rfl⟩|exact⟨(ie _ _ _ _).1,(ie _ _ _ _).2.1⟩|exact⟨(qQ _ _ _).2.2.1,(qQ _ _ _).2.2.2⟩|(dsimp only;split<;>first|exact⟨rfl,rfl⟩|exact⟨(ie _ _ _ _).1,(ie _ _ _ _).2.1⟩)
theorem Mg:(e9 c s k f).1.ep=s.ep∧(e9 c s k f).1.gs=s.gs:=by
 unfold e9
 repeat' split
 all_goals first|exact⟨rfl,rfl⟩|exact⟨(ie _ _ _ _).1,(ie _ _ _ _).2.1⟩
theorem OD:(fX c s f).1.ep=s.ep∧(fX c s f).1.gs=s.gs∧(fX c s f).1.tb=s.tb:=by
 unfold fX
 repeat' split
 all_goals first|exact⟨rfl,rfl,rfl⟩|exact⟨(ie _ _ _ _).1,(ie _ _ _ _).2.1,(ie _ _ _ _).2.2.1⟩
theorem OE:aE (bC c R (fX c s f).1) 3=aE (bC c R s) 3:=by
 unfold fX
 repeat' split
 all_goals first|rfl|(unfold bV;split<;>rfl)
structure sH (c:NC)(w:Nat)(s:bc)(k:aU)(f:aP):Prop where
 w:w<c.n
 gs:s.gs.length=c.n
 ep:sq c.n s.ep s.gs
 pl:cp (3*c.np) s.pl
 tb:cV c.nb (3*c.np) s.tb
 wk:lL c s k
 cH:f.b.length≤140737488355328
 le:f.next≤18
 fin:f.next=1→eH f
 bR:f.next=1→∃e,f.bR=some e∧e.Ok c.n∧e.done=false
 known:2≤f.next→f.next≤5→B7 c f
 fresh:6≤f.next→f.next≤11→oH c k f
 enters:12≤f.next→f.next≤14→so c k f
 E0:15≤f.next→f.next≤17→BT c f
set_option maxHeartbeats 4000000 in
theorem QJ {w:Nat}(hT:fU W)(hc:c.Ok)(h:sH c w s k f):
  Spec Tryz.prog 80 [.pointer pn,.int .i64 (w:Int),.pointer P.p,.pointer q] W (aA q f*bf R.po P k (NH pn c R*eV c R s F)) (fun _:Unit=> .tuple #[]) (fun _=>aA q (c7 c w s k f).2.2*bf R.po P (c7 c w s k f).2.1 (NH pn c R*eV c R (c7 c w s k f).1 F)):=by
 refine Spec.of Tryz.func80 rfl Tryz.ntmps80 rfl ?_
 have zO:=h.gs
 have vv:=hc.n
 have hle:=h.le
 have ja:=hc.oX
 have hU:f.next=0∨f.next=1∨(2≤f.next∧f.next≤5)∨(6≤f.next∧f.next≤11)∨(12≤f.next∧f.next≤14)∨(15≤f.next∧f.next≤17)∨f.next=18:=by omega
 rcases hU with e|e|⟨e1,e2⟩|⟨e1,e2⟩|⟨e1,e2⟩|⟨e1,e2⟩|e
 ·have es:c7 c w s k f=(s,k,oa c w f):=by unfold c7;rw[if_pos e]
  rw[es]
  refine aA.open fun Q=> ?_
  simp only[bW,bf,eV]
  repeat first|refine aa ?_ |intro
  refine af rfl (Spec.pre (QH (pn:=pn) (q:=q) (f:=f) (R:=R) (s:=s) (w:=w) (F:=bf R.po P k (aJ R.pl s.pl*(aF R.tb R.pl c.nb s.tb*(aE (bC c R s) 3*F)))) hc h.cH (by have:=h.w;omega) (by omega)) (aA.bH Q (by rfl) (by simp only[bf];exact ab))) ?_
  intro _
  repeat first|refine aa ?_ |intro
  exact aH (aI rfl () rfl (U.sat (ab)))
 ·obtain⟨p,Ea,nN,NZ⟩:=h.bR e
  have rC:=h.fin e
  have es:c7 c w s k f=({s with ep:=(du c.n s.ep p).1},k,if(du c.n s.ep p).2.done=false then {f with bR:=some (du c.n s.ep p).2}
    else if f.out=true then {f with bR:=some (du c.n s.ep p).2,pinned:=true}.look c else {f with bR:=some (du c.n s.ep p).2,pinned:=true,next:=15}):=by
   unfold c7;rw[if_neg (by omega),if_pos e,Ea]
  rw[es]
  clear es
  have qu:∀(Q0:Option Addr) G,Spec Tryz.prog 113 [.pointer R.ep,.pointer Q0] W (cj Q0 p*(bO R.ep s.ep s.gs*G)) (fun _:Unit=> .bool (du c.n s.ep p).2.done) (fun _=>cj Q0 (du c.n s.ep p).2*(bO R.ep (du c.n s.ep p).1 s.gs*G)):=fun Q0 G=>by
   have:=Jc (W:=W) (F:=G) (p:=R.ep) (q:=Q0) (ws:=s.ep) (gs:=s.gs) (s:=p) (by rw[zO];exact h.ep) (by rw[zO];exact nN) (by omega) NZ
   rw[zO]at this
   exact this
  have iY:∀z,aE (bC c R {s with ep:=z}) 3=aE (bC c R s) 3:=fun _=>rfl
  refine aA.open fun Q=> ?_
  simp only[bW,bf,eV,iY,Ea,cd]
  repeat first|refine aa ?_ |intro
  refine aG 99 (NH pn c R*(Obj q 141 (ck f Q)*1)) rfl rfl rfl ?_
  repeat(first|refine ak ?_ |refine eD ?_)
  refine aC rfl rfl rfl rfl rfl (Spec.eY Q.bR R.ep (qu Q.bR _)) (fun _=>ab) ?_
  intro _
  repeat(first|refine ak ?_ |refine eD ?_)
  generalize du c.n s.ep p=D at*
  obtain⟨jN,p'⟩:=D
  dsimp only at*
  cases hd:p'.done with
  |false=>
   rw[if_pos rfl]
   repeat first|refine aa ?_ |intro
   refine aH (aI rfl () rfl (U.sat (aA.bH Q (by rfl) ?_)))
   simp only[cd]
   exact ab
  |true=>
   rw[if_neg (fun hh=>by cases hh)]
   rcases Bool.eq_false_or_eq_true f.out with ho|ho
   ·rw[if_pos ho,show aP.look c {f with bR:=some p',pinned:=true}=aP.look c {f with bR:=some p',pinned:=true,next:=15}from rfl]
    repeat first|refine aa ?_ |intro
    refine sj (by rw[ho];rfl) ?_
    repeat first|refine aa ?_ |intro
    have b7:eH {f with bR:=some p',pinned:=true,next:=15}:=⟨rC.cH,rC.tick,rC.proto,rC.addr,rC.port,rC.flags⟩
    refine af rfl (Spec.pre (zn (pn:=pn) (q:=q) (R:=R) (s:=s) (f:={f with bR:=some p',pinned:=true,next:=15}) (F:=bf R.po P k (bO R.ep jN s.gs*(aJ R.pl s.pl*(aE (bC c R s) 3*F)))) ja b7) (aA.bH Q (by rfl) (by simp only[cd,bf];exact ab))) ?_
    intro _
    repeat first|refine aa ?_ |intro
    exact aH (aI rfl () rfl (U.sat (by simp only[bf];exact ab)))
   ·rw[if_neg (fun hh=>by rw[ho]at hh;cases hh)]
    repeat first|refine aa ?_ |intro
    refine si (by rw[ho];rfl) ?_
    repeat first|refine aa ?_ |intro
    refine aH (aI rfl () rfl (U.sat (aA.bH Q (by rfl) ?_)))
    simp only[cd]
    exact ab
 ·have es:c7 c w s k f=((fB c s k f).1,k,(fB c s k f).2):=by unfold c7;rw[if_neg (by omega),if_neg (by omega),if_pos e2]
  rw[es]
  obtain⟨g1,g2⟩:=Pf (c:=c) (s:=s) (k:=k) (f:=f)
  have g3:=Pg (R:=R) (c:=c) (s:=s) (k:=k) (f:=f)
  refine aA.open fun Q=> ?_
  simp only[bW,bf,eV,g1,g2,g3]
  have hU:f.next=2∨f.next=3∨f.next=4∨f.next=5:=by omega
  rcases hU with e|e|e|e
  all_goals
   repeat first|refine aa ?_ |intro
   refine af rfl (Spec.pre (QA (pn:=pn) (q:=q) (f:=f) (R:=R) (s:=s) (k:=k) (P:=P) (F:=bO R.ep s.ep s.gs*F) hc h.pl h.tb h.wk (h.known e1 e2) e1 e2) (aA.bH Q (by rfl) (by simp only[bf];exact ab))) ?_
   intro _
   repeat first|refine aa ?_ |intro
   exact aH (aI rfl () rfl (U.sat (by simp only[bf];exact ab)))
 ·have es:c7 c w s k f=cq c s k f:=by unfold c7;rw[if_neg (by omega),if_neg (by omega),if_neg (by omega),if_pos e2]
  rw[es]
  obtain⟨g1,g2⟩:=MS (c:=c) (s:=s) (k:=k) (f:=f)
  refine aA.open fun Q=> ?_
  simp only[bW,bf,eV,g1,g2]
  have hU:f.next=6∨f.next=7∨f.next=8∨f.next=9∨f.next=10∨f.next=11:=by omega
  rcases hU with e|e|e|e|e|e
  all_goals
   repeat first|refine aa ?_ |intro
   refine af rfl (Spec.pre (Qx (pn:=pn) (q:=q) (f:=f) (R:=R) (s:=s) (k:=k) (P:=P) (F:=bO R.ep s.ep s.gs*F) hT hc h.pl h.tb h.wk (h.fresh e1 e2) e1 e2) (aA.bH Q (by rfl) (by simp only[bf];exact ab))) ?_
   intro _
   repeat first|refine aa ?_ |intro
   exact aH (aI rfl () rfl (U.sat (by simp only[fP,bf];exact ab)))
 ·have es:c7 c w s k f=e9 c s k f:=by unfold c7;rw[if_neg (by omega),if_neg (by omega),if_neg (by omega),if_neg (by omega),if_pos e2]
  rw[es]
  obtain⟨g1,g2⟩:=Mg (c:=c) (s:=s) (k:=k) (f:=f)
  refine aA.open fun Q=> ?_
  simp only[bW,bf,eV,g1,g2]
  have hU:f.next=12∨f.next=13∨f.next=14:=by omega
  rcases hU with e|e|e
  all_goals
   repeat first|refine aa ?_ |intro
   refine af rfl (Spec.pre (Qu (pn:=pn) (q:=q) (f:=f) (R:=R) (s:=s) (k:=k) (P:=P) (F:=bO R.ep s.ep s.gs*F) hc h.pl h.tb h.wk (h.enters e1 e2) e1 e2) (aA.bH Q (by rfl) (by simp only[bf];exact ab))) ?_
   intro _
   repeat first|refine aa ?_ |intro
   exact aH (aI rfl () rfl (U.sat (by simp only[fP,bf];exact ab)))
 ·have es:c7 c w s k f=((fX c s f).1,k,(fX c s f).2):=by unfold c7;rw[if_neg (by omega),if_neg (by omega),if_neg (by omega),if_neg (by omega),if_neg (by omega),if_pos e2]
  rw[es]
  obtain⟨g1,g2,g4⟩:=OD (c:=c) (s:=s) (f:=f)
  have g3:=OE (R:=R) (c:=c) (s:=s) (f:=f)
  refine aA.open fun Q=> ?_
  simp only[bW,bf,eV,g1,g2,g3,g4]
  have hU:f.next=15∨f.next=16∨f.next=17:=by omega
  rcases hU with e|e|e
  all_goals
   repeat first|refine aa ?_ |intro
   refine af rfl (Spec.pre (Qy (pn:=pn) (q:=q) (f:=f) (R:=R) (s:=s) (F:=bf R.po P k (bO R.ep s.ep s.gs*(aF R.tb R.pl c.nb s.tb*(aE (bC c R s) 3*F)))) hc h.pl (h.E0 e1 e2) e1 e2) (aA.bH Q (by rfl) (by simp only[bf];exact ab))) ?_
   intro _
   repeat first|refine aa ?_ |intro
   exact aH (aI rfl () rfl (U.sat (by simp only[bf];exact ab)))
 ·have es:c7 c w s k f=({s with ep:=s.ep.set (1+w) 0},k,{f with pinned:=false,done:=true}):=by unfold c7;rw[if_neg (by omega),if_neg (by omega),if_neg (by omega),if_neg (by omega),if_neg (by omega),if_neg (by omega)]
  rw[es]
  have Nw:=h.ep
  have hw:=h.w
  have iY:∀z,aE (bC c R {s with ep:=z}) 3=aE (bC c R s) 3:=fun _=>rfl
  refine aA.open fun Q=> ?_
  simp only[bW,bf,eV,iY]
  repeat first|refine aa ?_ |intro
  refine af rfl (Spec.aL R.ep (Jv (w:=w) (by omega) (by omega) (by have:=Nw.len;omega))) ?_
  intro _
  repeat first|refine aa ?_ |intro
  exact aH (aI rfl () rfl (U.sat (aA.bH Q (by rfl) (ab))))
end
section
open Go.RowKit
set_option maxRecDepth 10000
attribute [local irreducible] EK EX ER EN EL ES EG av aV aY
variable {W:World} {F G:SL} {X:Cx} {kk:List KI} {σ:Env} {pn r b:Option Addr} {x:fT} {c:NC} {R:dW} {s:bc} {k:aU} {P:dt} {pp:Nat→Option Addr} {pc pw po:Option Addr}
theorem yX {P':dt}{k':aU}(hc:P'.c=P.c)(hq:P'.q=P.q)(h0:k'.c0=k.c0)(h1:k'.c1=k.c1)(h2:k'.c2=k.c2):aE (ec pp P' k') 3=aE (ec pp P k) 3:=
 aE.congr 3 fun i hi=>by
  unfold ec aU.ca
  rw[hc,hq,h0,h1,h2]
end
section
open Go.RowKit
set_option maxRecDepth 10000
attribute [local irreducible] EK EX ER EN EL ES EG av aV aY
variable {W:World} {F G:SL} {X:Cx} {kk:List KI} {σ:Env} {pn:Option Addr} {c:NC} {R:dW} {k:aU} {P:dt} {b:Option Addr}
theorem tS:Spec Tryz.prog 51 [.pointer P.p] W (Obj P.p 148 (cS P k)*(bt (aA P.fr) k.frame*(bt (fun x=>mw P.sw x b) k.bn*F))) (fun _:Unit=> .bool k.busy) (fun _=>Obj P.p 148 (cS P k)*(bt (aA P.fr) k.frame*(bt (fun x=>mw P.sw x b) k.bn*F))):=by
 refine Spec.of Tryz.func51 rfl Tryz.ntmps51 rfl ?_
 unfold aU.busy
 cases hf:k.frame with
 |some f=>
  simp only[cd,cS,hf,show kv (some f) P.fr=P.fr from rfl]
  repeat first|refine aa ?_ |intro
  exact ae (ar rfl rfl () rfl (U.sat (ab)))
 |none=>
  cases hs:k.bn with
  |some x=>
   simp only[cd,gE,cS,hf,hs,j2,show kv (some x) P.sw=P.sw from rfl]
   repeat first|refine aa ?_ |intro
   exact ae (ar rfl rfl () rfl (U.sat (ab)))
  |none=>
   simp only[gE,cS,hf,hs,j2]
   repeat first|refine aa ?_ |intro
   exact ae (ar rfl rfl () rfl (U.sat (ab)))
theorem AS {w:Nat}(hw:w<c.n):Spec Tryz.prog 50 [.pointer pn,.int .i64 (w:Int)] W (NH pn c R*(an 129 1 R.ws.1 c.n R.ws.2 (dA c.n fun i=>(R.wk i).p)*F)) (fun _:Unit=> .pointer (R.wk w).p) (fun _=>NH pn c R*(an 129 1 R.ws.1 c.n R.ws.2 (dA c.n fun i=>(R.wk i).p)*F)):=by
 refine Spec.of Tryz.func50 rfl Tryz.ntmps50 rfl ?_
 repeat first|refine aa ?_ |intro
 exact ae (ar rfl rfl () rfl (U.sat (ab)))
end
end Go.Proofs.YtimekbpkejemoaaGreatDoor
