/-
  A part of a proof, joined by a program (wip/bundle3.py).
-/
import Derived.Test.YtakbmjoijcpdmaaGreatDoorG2
import Derived.Test.YtakbmjoijcpdmaaGreatDoorG7
import Derived.Test.YtakbmjoijcpdmaaGreatDoorG8
import Derived.Test.YtakbmjoijcpdmaaGreatDoorG14
import Derived.Test.YtakbmjoijcpdmaaGreatDoorG16
set_option linter.unusedVariables false
set_option linter.unusedSimpArgs false
namespace Go.Proofs.YtakbmjoijcpdmaaGreatDoor
section
open Go.RowKit
set_option maxRecDepth 10000
attribute [local irreducible] EK EX ER EN EL ES EG az ba bf
variable {W:World} {F G:SL} {X:Cx} {kk:List KI} {σ:Env} {pn q:Option Addr} {f:aH} {c:NC} {R:eJ} {s:aW} {k:aR} {P:dS} {pp:Nat→Option Addr} {pc pw po:Option Addr}
theorem V7 (hT:gE W)(hc:c.Ok)(hp:cK (3*c.np) s.pl)(ht:dD c.nb (3*c.np) s.tb)(hk:nV c s k)(h:qU c k f)(h6:6≤f.next)(Sm:f.next≤11):
  Spec Tryz.prog 50 [.pointer pn,.pointer P.p,.pointer q] W (aG q f*br R.po P k (NH pn c R*(aM R.pl s.pl*(aK R.tb R.pl c.nb s.tb*(aE (bI c R s) 3*F))))) (fun _:Unit=> .tuple #[]) (fun _=>hF q pn c R P F (cC c s k f)):=by
 rcases(show f.next=6∨f.next=7∨f.next=8∨f.next=9∨f.next=10∨f.next=11 by omega)with e|e|e|e|e|e
 ·exact R2 hT hc hk h e
 ·exact R3 hc hp ht hk h e
 ·exact R4 hT hc hk h e
 ·exact R5 hc hp hk h e
 ·exact R0 hc hp hk h e
 ·exact R1 hc hp hk h e
theorem EA (hc:c.Ok){i:Nat}(hi:i<3*c.np):tI c.cfg (i:Int)=(((jY (i/c.np):Nat):Int),(c.lo:Int)+((i%c.np:Nat):Int)):=by
 have hp:=hc.ports
 unfold tI
 rw[hp,if_neg (by omega),←Int.natCast_ediv,←Int.natCast_emod]
 generalize i/c.np=a
 unfold oA jY
 rcases a with _|_|a
 ·rfl
 ·rfl
 ·rw[if_neg (by omega),if_neg (by omega),if_neg (by omega),if_neg (by omega)];rfl
theorem yH (k:aR)(p:Nat)(id:Int)(w:aJ)(t:Int):jo k p id w t={k with bp:=(jo k p id w t).bp}:=by
 unfold jo
 split
 ·split<;>rfl
 ·split<;>rfl
theorem UZ (proto s:Nat):nJ proto s≤7440:=by
 unfold nJ
 split
 ·omega
 ·split
  ·omega
  ·split
   ·split<;>omega
   ·omega
set_option maxHeartbeats 2000000 in
theorem V1 {id:Int}{w:aJ}{t:Int}(hc:c.Ok)(h0:0≤id)(h1:id<((3*c.np:Nat):Int))(hw:w.sn≤4294967295)(wW:w.tr≤4)(ht:0≤t∧t≤4294967295)(hg:nt k.bp)(hn:k.bp.all.length≤1000)(Jt:k.bp.aS≤1000000):
  Spec Tryz.prog 106 [.pointer pn,.pointer P.p,.int .i64 id,jk w,.int .i64 t] W (NH pn c R*(Obj P.p 88 (cR P k)*(dR P.wh k.bp*F))) (fun _:Unit=> .tuple #[])
   (fun _=>NH pn c R*(Obj P.p 88 (cR P k)*(dR P.wh (jo k (jY (id.toNat/c.np)) id w t).bp*F))):=by
 refine Spec.of Tryz.func106 rfl Tryz.ntmps106 rfl ?_
 obtain⟨i,rfl⟩:∃i:Nat,id=(i:Int):=⟨id.toNat,by omega⟩
 have oo:=EA hc (i:=i) (by omega)
 have hi:((i:Int).toNat)=i:=by omega
 rw[hi]
 have Jl:jY (i/c.np)<256:=by unfold jY;split;decide;split<;>decide
 generalize jY (i/c.np)=pr at*
 repeat first|refine aa ?_ |intro
 rename_i y
 refine ag rfl (GQ c.cfg hc.fit (i:Int)) ?_
 intro _
 rw[oo]
 dsimp only
 have zx:=UZ pr w.tr
 unfold jo
 by_cases e:pr=6
 ·rw[if_neg (by omega)]
  have e':((pr:Nat):Int)=6:=by omega
  repeat first|refine aa ?_ |intro
  rw[if_pos ht.2]
  rw[show t=((t.toNat:Nat):Int)by omega]
  refine ag rfl (Spec.aV P.wh (FN P.wh k.bp (i:Int) t.toNat hg (by omega) hn Jt)) ?_
  intro _
  repeat first|refine aa ?_ |intro
  rw[show(((t.toNat:Nat):Int).toNat)=t.toNat by omega]
  exact aN (aO rfl () rfl (U.sat (ad)))
 ·rw[if_pos e]
  have e':¬((pr:Nat):Int)=6:=by omega
  repeat first|refine aa ?_ |intro
  refine aL 99 (Obj y 78 (wL w [])*1) rfl rfl rfl ?_
  repeat(first|refine aq ?_ |refine eD ?_)
  refine aI rfl rfl rfl rfl rfl (OU pr w.tr Jl wW) (fun _=>ad) ?_
  intro _
  repeat(first|refine aq ?_ |refine eD ?_)
  repeat first|refine aa ?_ |intro
  rw[show((w.sn:Int)+(nJ pr w.tr:Int))=((w.sn+nJ pr w.tr:Nat):Int)by omega]
  by_cases h2:w.sn+nJ pr w.tr≤4294967295
  ·rw[if_pos h2]
   refine ag rfl (Spec.aV P.wh (FN P.wh k.bp (i:Int) (w.sn+nJ pr w.tr) hg (by omega) hn Jt)) ?_
   intro _
   repeat first|refine aa ?_ |intro
   exact aN (aO rfl () rfl (U.sat (ad)))
  ·rw[if_neg h2]
   refine ag rfl (Spec.aV P.wh (NL P.wh k.bp (i:Int) ((w.sn+nJ pr w.tr:Nat):Int) (by omega))) ?_
   intro _
   repeat first|refine aa ?_ |intro
   exact aN (aO rfl () rfl (U.sat (ad)))
end
section
open Go.RowKit
set_option maxRecDepth 10000
attribute [local irreducible] EK EX ER EN EL ES EG az ba bf
variable {W:World} {F G:SL} {X:Cx} {kk:List KI} {σ:Env} {pn q:Option Addr} {f:aH} {c:NC} {R:eJ} {s:aW} {k:aR} {P:dS} {pp:Nat→Option Addr} {pc pw po:Option Addr}
instance :GW Tryz.prog 84 3 53:=⟨by kernel_rfl⟩
theorem Ll:∀ {l:List (Int×dQ)} {i:Int} {v:dQ},(l.map (·.1)).Nodup→kb l i v=ir l i v
 |[],i,v,_=>rfl
 |p::l,i,v,h=>by
  have h1:(p.1∉l.map (·.1))∧(l.map (·.1)).Nodup:=List.nodup_cons.1 h
  have ih:=Ll (i:=i) (v:=v) h1.2
  unfold kb
  unfold ir
  by_cases e:p.1=i
  ·rw[if_pos e,if_pos (by simp[e])]
   have hn:∀x∈l,¬x.1=i:=fun x hx hh=>h1.1 (List.mem_map.2 ⟨x,hx,by rw[hh,e]⟩)
   rw[List.map_cons,if_pos e]
   congr 1
   symm
   conv=>rhs;rw[←List.map_id l]
   exact List.map_congr_left fun x hx=>by rw[if_neg (hn x hx)];rfl
  ·rw[if_neg e]
   by_cases ha:l.any (fun p=>decide (p.1=i))=true
   ·rw[if_pos (by simp only[List.any_cons,ha,Bool.or_true])]
    rw[List.map_cons,if_neg e,ih]
    unfold ir
    rw[if_pos ha]
   ·rw[if_neg (by simp only[List.any_cons,e,decide_false,Bool.false_or];exact ha)]
    rw[ih]
    unfold ir
    rw[if_neg ha]
    rfl
structure vo (c:NC)(k:aR)(f:aH):Prop where
 fin:fB f
 ez:kY f.ar.proto
 enter:f.next=12→∃t,f.enter=some t∧bt c.nb (3*c.np) t∧t.done=false
 back:f.next=14→∃t,f.enter=some t
 id:0≤f.id∧f.id<((3*c.np:Nat):Int)
 word:f.word.ok
 tr:f.word.tr≤4
 bp:nt k.bp
 all:k.bp.all.length≤1000
 aS:k.bp.aS≤1000000
 keys:(k.cm.map (·.1)).Nodup
 room:f.next=14→(k.ca (aF f.ar.proto)).l.length<16
set_option maxHeartbeats 2000000 in
theorem Rq (hc:c.Ok)(hp:cK (3*c.np) s.pl)(ht:dD c.nb (3*c.np) s.tb)(h:vo c k f)(e:f.next=12):
  Spec Tryz.prog 51 [.pointer pn,.pointer P.p,.pointer q] W (aG q f*br R.po P k (NH pn c R*(aM R.pl s.pl*(aK R.tb R.pl c.nb s.tb*(aE (bI c R s) 3*F))))) (fun _:Unit=> .tuple #[]) (fun _=>hF q pn c R P F (fi c s k f)):=by
 refine Spec.of Tryz.func51 rfl Tryz.ntmps51 rfl ?_
 have j9:=hc.rk
 obtain⟨t,la,jR,wV⟩:=h.enter e
 have es:fi c s k f=({s with tb:=(bA s.pl c.nb s.tb t).1},k,if(bA s.pl c.nb s.tb t).2.done=false then {f with enter:=some (bA s.pl c.nb s.tb t).2}else {f with enter:=some (bA s.pl c.nb s.tb t).2,next:=if(bA s.pl c.nb s.tb t).2.end_=0 then 13 else 14}):=by
  unfold fi;rw[if_pos e,la]
 rw[es]
 clear es
 refine aG.open fun Q=> ?_
 have j7:∀z,aE (bI c R {s with tb:=z}) 3=aE (bI c R s) 3:=fun _=>rfl
 simp only[cr,hF,br,la,cy,SL.cb,j7]
 repeat first|refine aa ?_ |intro
 refine aL 99 (NH pn c R*(Obj q 80 (cF f Q)*1)) rfl rfl rfl ?_
 repeat(first|refine aq ?_ |refine eD ?_)
 refine aI rfl rfl rfl rfl rfl (Spec.yI Q.enter R.tb R.pl (Ci j9 ht hp jR wV)) (fun _=>ad) ?_
 intro _
 repeat(first|refine aq ?_ |refine eD ?_)
 generalize bA s.pl c.nb s.tb t=D at*
 obtain⟨dN,t'⟩:=D
 dsimp only at*
 cases hd:t'.done with
 |false=>
  rw[if_pos rfl]
  repeat first|refine aa ?_ |intro
  refine ae (dB rfl () rfl (U.sat (aG.bW Q (by rfl) ?_)))
  simp only[cy]
  exact ad
 |true=>
  rw[if_neg (fun hh=>by cases hh)]
  repeat first|refine aa ?_ |intro
  refine ag rfl (Spec.aV Q.enter ub) ?_
  intro _
  by_cases h0:t'.end_=0
  ·rw[if_pos h0]
   repeat first|refine aa ?_ |intro
   refine aN (aO rfl () rfl (U.sat (aG.bW Q (by rfl) ?_)))
   simp only[cy]
   exact ad
  ·rw[if_neg h0]
   repeat first|refine aa ?_ |intro
   refine aN (aO rfl () rfl (U.sat (aG.bW Q (by rfl) ?_)))
   simp only[cy]
   exact ad
set_option maxHeartbeats 2000000 in
theorem Rr (hc:c.Ok)(hp:cK (3*c.np) s.pl)(h:vo c k f)(e:f.next=13):
  Spec Tryz.prog 51 [.pointer pn,.pointer P.p,.pointer q] W (aG q f*br R.po P k (NH pn c R*(aM R.pl s.pl*(aK R.tb R.pl c.nb s.tb*(aE (bI c R s) 3*F))))) (fun _:Unit=> .tuple #[]) (fun _=>hF q pn c R P F (fi c s k f)):=by
 refine Spec.of Tryz.func51 rfl Tryz.ntmps51 rfl ?_
 have bJ:=h.fin
 have jT:=h.word
 obtain⟨h0,h1⟩:=h.id
 have es:fi c s k f=(bN s f.id f.word {f.word with st:=2},jo {k with cm:=ir k.cm f.id f.ar} (jY (f.id.toNat/c.np)) f.id f.word f.tick,f.goes c f.id):=by
  unfold fi;rw[if_neg (by omega),if_pos e]
 rw[es,yH]
 clear es
 obtain⟨wh,Jx⟩:∃wh,wh=(jo {k with cm:=ir k.cm f.id f.ar} (jY (f.id.toNat/c.np)) f.id f.word f.tick).bp:=⟨_,rfl⟩
 have Tp:∀G,Spec Tryz.prog 106 [.pointer pn,.pointer P.p,.int .i64 f.id,jk f.word,.int .i64 f.tick] W (NH pn c R*(Obj P.p 88 (cR P k)*(dR P.wh k.bp*G))) (fun _:Unit=> .tuple #[]) (fun _=>NH pn c R*(Obj P.p 88 (cR P k)*(dR P.wh wh*G))):=fun G=>by
  rw[Jx]
  exact V1 (W:=W) (pn:=pn) (R:=R) (P:=P) (k:={k with cm:=ir k.cm f.id f.ar}) (F:=G) hc h0 h1 jT.2.2.2 h.tr bJ.tick h.bp h.all h.aS
 rw[←Jx]
 have Rf:aE (eG R.po P {k with cm:=ir k.cm f.id f.ar,bp:=wh}) 3=aE (eG R.po P k) 3:=rfl
 have qn:({f.word with st:=2}:aJ).ok:=⟨by show 2≤3;decide,jT.2.1,jT.2.2.1,jT.2.2.2⟩
 have oa:(bN s f.id f.word {f.word with st:=2}).tb=s.tb:=by unfold bN;split<;>rfl
 have j7:aE (bI c R (bN s f.id f.word {f.word with st:=2})) 3=aE (bI c R s) 3:=by unfold bN;split<;>rfl
 refine aG.open fun Q=> ?_
 simp only[cr,hF,br,oa,j7,Rf]
 repeat first|refine aa ?_ |intro
 rename_i y
 repeat first|refine aa ?_ |intro
 refine aL 99 (Obj y 78 (wL {f.word with st:=2} [])*(NH pn c R*(Obj q 80 (cF f Q)*1))) rfl rfl rfl ?_
 repeat(first|refine aq ?_ |refine eD ?_)
 refine aI rfl rfl rfl rfl rfl (Spec.aV R.pl (uR (id:=f.id) (a:=f.word) (b:={f.word with st:=2}) hc hp h0 h1 jT qn)) (fun _=>ad) ?_
 intro _
 repeat(first|refine aq ?_ |refine eD ?_)
 repeat first|refine aa ?_ |intro
 refine aL 12 (Obj P.p 88 (cR P k)*(Obj q 80 (cF f Q)*1)) rfl rfl rfl ?_
 repeat(first|refine aq ?_ |refine eD ?_)
 refine AZ rfl (O8 (ek:=iq) (ev:=gy) (k:=f.id) (v:=f.ar) rfl rfl rfl rfl) (by decide+kernel) (by decide+kernel) ?_
 rw[Ll h.keys]
 repeat first|refine aa ?_ |intro
 refine aL 99 (NH pn c R*(Obj q 80 (cF f Q)*1)) rfl rfl rfl ?_
 repeat(first|refine aq ?_ |refine eD ?_)
 refine aI rfl rfl rfl rfl rfl (Spec.yI pn P.p P.wh (Tp _)) (fun _=>ad) ?_
 intro _
 repeat(first|refine aq ?_ |refine eD ?_)
 repeat first|refine aa ?_ |intro
 refine ag rfl (Spec.pre (CR (pn:=pn) (q:=q) (f:=f) (R:=R) (id:=f.id) (F:=Obj P.p 88 (cR P k)*(aE (eG R.po P k) 3*(dR P.wh wh*(fU iq gy P.m (ir k.cm f.id f.ar)*(ao 5 1 P.told.1 k.cj.length P.told.2 (aA k.cj)*(ao 287 2 P.ended.1 k.ended.length P.ended.2 (mb k.ended)*(aM R.pl (bN s f.id f.word {f.word with st:=2}).pl*(aK R.tb R.pl c.nb s.tb*(aE (bI c R s) 3*F))))))))) hc bJ h0 h1) (aG.bW Q (by rfl) (ad))) ?_
 intro _
 repeat first|refine aa ?_ |intro
 exact aN (aO rfl () rfl (U.sat (ad)))
set_option maxHeartbeats 2000000 in
theorem Rs (hc : c.Ok) (hp : cK (3 * c.np) s.pl) (hk : nV c s k) (h : vo c k f) (e : f.next = 14) :
    Spec Tryz.prog 51 [.pointer pn, .pointer P.p, .pointer q] W (aG q f * br R.po P k (NH pn c R * (aM R.pl s.pl * (aK R.tb R.pl c.nb s.tb * (aE (bI c R s) 3 * F))))) (fun _ : Unit => .tuple #[]) (fun _ => hF q pn c R P F (fi c s k f)) := by
  refine Spec.of Tryz.func51 rfl Tryz.ntmps51 rfl ?_
  have bJ := h.fin
  have jT := h.word
  have qj := h.ez
  have wM := h.room e
  have bl := gH f.ar.proto
  have ho := hk.out _ bl
  obtain ⟨h0, h1⟩ := h.id
  have c3 := hc.np
  haveI : Pos c.np := ⟨by omega⟩
  obtain ⟨i, hi⟩ : ∃ i : Nat, f.id = (i : Int) := ⟨f.id.toNat, by omega⟩
  have Dw : f.id.toNat = i := by omega
  obtain ⟨t, la⟩ := h.back e
  have zm : (kp c.np (k.ca (aF f.ar.proto)) (i % c.np)).1 = { k.ca (aF f.ar.proto) with l := (k.ca (aF f.ar.proto)).l ++ [i % c.np] } := by
    unfold kp
    rw [if_neg (by rw [xj]; omega)]
  have es : fi c s k f = (bN s f.id f.word { f.word with st := 0 }, k.bK (aF f.ar.proto) { k.ca (aF f.ar.proto) with l := (k.ca (aF f.ar.proto)).l ++ [i % c.np] },
        if t.end_ = 10 then { f with made := false }.fj t.found t.aQ else { f with made := false }.fin [] 9) := by
    unfold fi; rw [if_neg (by omega), if_neg (by omega), la, Dw, zm]
  rw [es]
  clear es zm
  have qn : ({ f.word with st := 0 } : aJ).ok := ⟨by show 0 ≤ 3; decide, jT.2.1, jT.2.2.1, jT.2.2.2⟩
  have oa : (bN s f.id f.word { f.word with st := 0 }).tb = s.tb := by unfold bN; split <;> rfl
  have j7 : aE (bI c R (bN s f.id f.word { f.word with st := 0 })) 3 = aE (bI c R s) 3 := by unfold bN; split <;> rfl
  refine aG.open fun Q => ?_
  obtain ⟨k1, k2, k3, k4, k5, k6, k7, k8⟩ := nO k (aF f.ar.proto) { k.ca (aF f.ar.proto) with l := (k.ca (aF f.ar.proto)).l ++ [i % c.np] }
  simp only [cr, hF, br, cR, k1, k2, k3, k4, k5, k6, k7, k8, oa, j7, la, cy]
  rw [Cw (k := k) bl, lM (k := k) bl ho]
  simp only [ho, ln, ia]
  repeat first | refine aa ?_ | intro
  rename_i y
  refine aL 99 (Obj y 78 (wL { f.word with st := 0 } []) * (NH pn c R * (Obj q 80 (cF f Q) * 1))) rfl rfl rfl ?_
  repeat (first | refine aq ?_ | refine eD ?_)
  refine aI rfl rfl rfl rfl rfl (Spec.aV R.pl (uR (id := f.id) (a := f.word) (b := { f.word with st := 0 }) hc hp h0 h1 jT qn)) (fun _ => ad) ?_
  intro _
  repeat (first | refine aq ?_ | refine eD ?_)
  repeat first | refine aa ?_ | intro
  refine aL 99 (NH pn c R * (Obj q 80 (cF f Q) * (Obj P.p 88 (cR P k) * 1))) rfl rfl rfl ?_
  repeat (first | refine aq ?_ | refine eD ?_)
  refine aI rfl rfl rfl rfl rfl (Spec.fE q P.p (rq (Q := Q) (k := k) (P := P) h.ez)) (fun _ => ad) ?_
  intro _
  repeat (first | refine aq ?_ | refine eD ?_)
  rw [show (f.id % (c.np : Int)) = ((i % c.np : Nat) : Int) by rw [hi, Int.natCast_emod]]
  refine aI rfl rfl rfl rfl rfl (Spec.aV (P.c (aF f.ar.proto)) (Pg (i % c.np) wM)) (fun _ => ad) ?_
  intro z
  repeat (first | refine aq ?_ | refine eD ?_)
  repeat first | refine aa ?_ | intro
  refine ag rfl (Spec.aV Q.enter ub) ?_
  intro _
  by_cases zf : t.end_ = 10
  · rw [if_pos zf]
    repeat first | refine aa ?_ | intro
    refine ag rfl (Spec.aV Q.enter A7) ?_
    intro _
    repeat first | refine aa ?_ | intro
    refine ag rfl (Spec.pre (yZ (q := q) (f := { f with made := false }) (id := t.found) (w := t.aQ) (F := Obj P.p 88 (cR P k) * (bj (P.c (aF f.ar.proto)) (R.po (aF f.ar.proto)) (k.ca (aF f.ar.proto)).h ((k.ca (aF f.ar.proto)).l ++ [i % c.np]) none * (aE (df (eG R.po P k) (aF f.ar.proto)) 3 * (dR P.wh k.bp * (fU iq gy P.m k.cm * (ao 5 1 P.told.1 k.cj.length P.told.2 (aA k.cj) * (ao 287 2 P.ended.1 k.ended.length P.ended.2 (mb k.ended) * (NH pn c R * (aM R.pl (bN s f.id f.word { f.word with st := 0 }).pl * (aK R.tb R.pl c.nb s.tb * (aE (bI c R s) 3 * F)))))))))))) (aG.bW Q (by rfl) (by simp only [la, cy]; exact ad))) ?_
    intro _
    repeat first | refine aa ?_ | intro
    exact ae (dB rfl () rfl (U.sat (by rw [← la]; exact ad)))
  · rw [if_neg zf]
    repeat first | refine aa ?_ | intro
    refine ag rfl (Spec.pre (yX (q := q) (f := { f with made := false }) (e := 9) (F := Obj P.p 88 (cR P k) * (bj (P.c (aF f.ar.proto)) (R.po (aF f.ar.proto)) (k.ca (aF f.ar.proto)).h ((k.ca (aF f.ar.proto)).l ++ [i % c.np]) none * (aE (df (eG R.po P k) (aF f.ar.proto)) 3 * (dR P.wh k.bp * (fU iq gy P.m k.cm * (ao 5 1 P.told.1 k.cj.length P.told.2 (aA k.cj) * (ao 287 2 P.ended.1 k.ended.length P.ended.2 (mb k.ended) * (NH pn c R * (aM R.pl (bN s f.id f.word { f.word with st := 0 }).pl * (aK R.tb R.pl c.nb s.tb * (aE (bI c R s) 3 * F)))))))))))) (aG.bW Q (by rfl) (by simp only [la, cy]; exact ad))) ?_
    intro _
    repeat first | refine aa ?_ | intro
    exact aN (aO rfl () rfl (U.sat (by rw [← la]; exact ad)))
theorem V4 (hc:c.Ok)(hp:cK (3*c.np) s.pl)(ht:dD c.nb (3*c.np) s.tb)(hk:nV c s k)(h:vo c k f)(qe:12≤f.next)(h14:f.next≤14):
  Spec Tryz.prog 51 [.pointer pn,.pointer P.p,.pointer q] W (aG q f*br R.po P k (NH pn c R*(aM R.pl s.pl*(aK R.tb R.pl c.nb s.tb*(aE (bI c R s) 3*F))))) (fun _:Unit=> .tuple #[]) (fun _=>hF q pn c R P F (fi c s k f)):=by
 rcases(show f.next=12∨f.next=13∨f.next=14 by omega)with e|e|e
 ·exact Rq hc hp ht h e
 ·exact Rr hc hp h e
 ·exact Rs hc hp hk h e
end
section
open Go.RowKit
set_option maxRecDepth 10000
attribute [local irreducible] EK EX ER EN EL ES EG az ba bf
variable {W:World} {F G:SL} {X:Cx} {kk:List KI} {σ:Env} {pn q:Option Addr} {f:aH} {c:NC} {R:eJ} {s:aW} {k:aR} {P:dS} {pp:Nat→Option Addr} {pc pw po:Option Addr}
structure Gb (c:NC)(f:aH):Prop where
 fin:fB f
 id:0≤f.id∧f.id<((3*c.np:Nat):Int)
 word:f.word.ok
 now:f.now.ok
 tr:f.word.tr≤4
 addr:f.next=17→f.dU.addr<4294967296
 port:f.next=17→f.dU.port<65536
theorem KG {p:Option Addr}{id:Int}(hc:c.Ok)(hp:cK (3*c.np) s.pl)(h0:0≤id)(h1:id<((3*c.np:Nat):Int)):Spec Tryz.prog 29 [.pointer p,.int .i64 id] W (aM p s.pl*F) (fun _:Unit=> .agg #[.int .i64 ((nC (o9 s id)).proto:Int),.int .u32 ((nC (o9 s id)).addr:Int),.int .u16 ((nC (o9 s id)).port:Int)]) (fun _=>aM p s.pl*F):=by
 have c3:=hc.np
 have h:=Cc (W:=W) (F:=F) (p:=p) (i:=id.toNat) hp.len (by omega) (by omega) hp.w
 rw[show((id.toNat:Nat):Int)=id by omega]at h
 exact h
set_option maxHeartbeats 2000000 in
theorem V8 (hc:c.Ok)(hp:cK (3*c.np) s.pl)(h:Gb c f)(h15:15≤f.next)(h17:f.next≤17):
  Spec Tryz.prog 52 [.pointer pn,.pointer q] W (aG q f*(NH pn c R*(aM R.pl s.pl*F))) (fun _:Unit=> .tuple #[]) (fun _=>aG q (hZ c s f).2*(NH pn c R*(aM R.pl (hZ c s f).1.pl*F))):=by
 refine Spec.of Tryz.func52 rfl Tryz.ntmps52 rfl ?_
 have bJ:=h.fin
 have jT:=h.word
 have DO:=h.now
 have oc:=bJ.da
 have wW:=h.tr
 obtain⟨h0,h1⟩:=h.id
 rcases(show f.next=15∨f.next=16∨f.next=17 by omega)with e|e|e
 ·have es:hZ c s f=(s,if(bC s f.id).st≠2 then {f with word:=bC s f.id,next:=16}.fin [] 7 else {f with word:=bC s f.id,next:=16}):=by unfold hZ;rw[if_pos e]
  rw[es]
  clear es
  refine aG.open fun Q=> ?_
  simp only[cr]
  repeat first|refine aa ?_ |intro
  refine aL 13 (NH pn c R*(Obj q 80 (cF f Q)*1)) rfl rfl rfl ?_
  repeat(first|refine aq ?_ |refine aY 0 rfl rfl rfl rfl (by decide+kernel) (av) rfl ?_ |refine aY 1 rfl rfl rfl rfl (by decide+kernel) (av) rfl ?_ |refine aY 2 rfl rfl rfl rfl (by decide+kernel) (av) rfl ?_ |refine aY 3 rfl rfl rfl rfl (by decide+kernel) (av) rfl ?_)
  refine aI rfl rfl rfl rfl rfl (Spec.aV R.pl (tB hc hp h0 h1)) (fun _=>ad) ?_
  intro _
  repeat(first|refine aq ?_ |refine aY 0 rfl rfl rfl rfl (by decide+kernel) (av) rfl ?_ |refine aY 1 rfl rfl rfl rfl (by decide+kernel) (av) rfl ?_ |refine aY 2 rfl rfl rfl rfl (by decide+kernel) (av) rfl ?_ |refine aY 3 rfl rfl rfl rfl (by decide+kernel) (av) rfl ?_)
  (refine my rfl (di rfl rfl rfl rfl rfl rfl) (by decide+kernel) rfl ?_);repeat(first|refine gu rfl rfl rfl (iy rfl rfl) (by decide+kernel) (by decide+kernel) rfl ?_ |refine gu rfl rfl rfl (ix rfl rfl) (by decide+kernel) (by decide+kernel) rfl ?_ |refine mz rfl rfl (di rfl rfl rfl rfl rfl rfl) (by decide+kernel) (by decide+kernel) rfl ?_ |refine eD ?_)
  generalize bC s f.id=w at*
  by_cases hw:w.st=2
  ·rw[if_neg (by omega)]
   repeat first|refine aa ?_ |intro
   exact aN (aO rfl () rfl (U.sat (aG.bW Q (by rfl) (ad))))
  ·rw[if_pos hw]
   repeat first|refine aa ?_ |intro
   refine ag rfl (Spec.pre (yX (q:=q) (f:={f with word:=w,next:=16}) (e:=7) (F:=(NH pn c R*(aM R.pl s.pl*F)))) (aG.bW Q (by rfl) (ad))) ?_
   intro _
   repeat first|refine aa ?_ |intro
   exact aN (aO rfl () rfl (U.sat (ad)))
 ·have es:hZ c s f=(s,{f with dU:=nC (o9 s f.id),now:=f.gm f.word,next:=17}):=by unfold hZ;rw[if_neg (by omega),if_pos e]
  rw[es]
  clear es
  refine aG.open fun Q=> ?_
  simp only[cr]
  repeat first|refine aa ?_ |intro
  refine aL 20 (NH pn c R*(Obj q 80 (cF f Q)*1)) rfl rfl rfl ?_
  repeat(first|refine aq ?_ |refine aY 0 rfl rfl rfl rfl (by decide+kernel) (av) rfl ?_ |refine aY 1 rfl rfl rfl rfl (by decide+kernel) (av) rfl ?_ |refine aY 2 rfl rfl rfl rfl (by decide+kernel) (av) rfl ?_ |refine aY 3 rfl rfl rfl rfl (by decide+kernel) (av) rfl ?_)
  refine aI rfl rfl rfl rfl rfl (Spec.aV R.pl (KG hc hp h0 h1)) (fun _=>ad) ?_
  intro _
  repeat(first|refine aq ?_ |refine aY 0 rfl rfl rfl rfl (by decide+kernel) (av) rfl ?_ |refine aY 1 rfl rfl rfl rfl (by decide+kernel) (av) rfl ?_ |refine aY 2 rfl rfl rfl rfl (by decide+kernel) (av) rfl ?_ |refine aY 3 rfl rfl rfl rfl (by decide+kernel) (av) rfl ?_)
  refine aI rfl rfl rfl rfl rfl (Spec.aV q (Iu (P:=Q) bJ wW)) (fun _=>ad) ?_
  intro _
  repeat(first|refine aq ?_ |refine aY 0 rfl rfl rfl rfl (by decide+kernel) (av) rfl ?_ |refine aY 1 rfl rfl rfl rfl (by decide+kernel) (av) rfl ?_ |refine aY 2 rfl rfl rfl rfl (by decide+kernel) (av) rfl ?_ |refine aY 3 rfl rfl rfl rfl (by decide+kernel) (av) rfl ?_)
  (refine my rfl (di rfl rfl rfl rfl rfl rfl) (by decide+kernel) rfl ?_);repeat(first|refine gu rfl rfl rfl (iy rfl rfl) (by decide+kernel) (by decide+kernel) rfl ?_ |refine gu rfl rfl rfl (ix rfl rfl) (by decide+kernel) (by decide+kernel) rfl ?_ |refine mz rfl rfl (di rfl rfl rfl rfl rfl rfl) (by decide+kernel) (by decide+kernel) rfl ?_ |refine eD ?_)
  repeat first|refine aa ?_ |intro
  generalize f.gm f.word=w
  generalize nC (o9 s f.id)=u
  exact aN (aO rfl () rfl (U.sat (aG.bW Q (by rfl) (ad))))
 ·have I1:=h.addr e
  have wv:=h.port e
  refine aG.open fun Q=> ?_
  simp only[cr]
  repeat first|refine aa ?_ |intro
  refine aL 99 (Obj q 80 (cF f Q)*1) rfl rfl rfl ?_
  repeat(first|refine aq ?_ |refine eD ?_)
  rw[FK]
  by_cases heq:f.now=f.word
  ·have es:hZ c s f=(s,if bC s f.id=f.word then {f with next:=15}.fin (jf f.b false f.dU.addr f.dU.port) (u4 f.b)else {f with next:=15}):=by unfold hZ;rw[if_neg (by omega),if_neg (by omega),if_pos heq]
   rw[es,decide_eq_true heq]
   clear es
   repeat first|refine aa ?_ |intro
   refine aL 99 (NH pn c R*(Obj q 80 (cF f Q)*1)) rfl rfl rfl ?_
   repeat(first|refine aq ?_ |refine eD ?_)
   refine aI rfl rfl rfl rfl rfl (Spec.aV R.pl (tB hc hp h0 h1)) (fun _=>ad) ?_
   intro _
   repeat(first|refine aq ?_ |refine eD ?_)
   rw[FK]
   by_cases zy:bC s f.id=f.word
   ·rw[if_pos zy,decide_eq_true zy]
    repeat first|refine aa ?_ |intro
    obtain⟨g,hg⟩:∃g:aH,g={f with next:=15}:=⟨_,rfl⟩
    have oh:g.b=f.b:=by rw[hg]
    have kA:g.dU=f.dU:=by rw[hg]
    have rJ:g.b.length≤140737488355328:=by rw[oh];exact oc
    refine jE (G:=cr q g Q (NH pn c R*(aM R.pl s.pl*F))) (by rw[hg];exact ad) ?_
    simp only[cr]
    refine aL 18 (NH pn c R*(Obj q 80 (cF g Q)*1)) rfl rfl rfl ?_
    repeat(first|refine aq ?_ |refine eD ?_)
    refine aI rfl rfl rfl rfl rfl (Gc (l:=g.b) rJ g.dU.addr g.dU.port (by rw[kA];exact I1) (by rw[kA];exact wv)) (fun _=>ad) ?_
    intro z
    repeat(first|refine aq ?_ |refine eD ?_)
    simp only[vC]
    refine kh rfl rfl rfl rfl (Spec.pre (yY (q:=q) (f:=g) (l:=jf g.b false g.dU.addr g.dU.port) (z:=z) (e:=dz g.b) (F:=NH pn c R*(aM R.pl s.pl*F))) (U.cons (aG.bW Q (by rfl) (ad)))) ?_
    intro _
    repeat(first|refine aq ?_ |refine eD ?_)
    repeat first|refine aa ?_ |intro
    rw[oh,kA,hg]
    exact aN (aO rfl () rfl (U.sat (ad)))
   ·rw[if_neg zy,decide_eq_false zy]
    repeat first|refine aa ?_ |intro
    exact aN (aO rfl () rfl (U.sat (aG.bW Q (by rfl) (ad))))
  ·have es:hZ c s f=(bN s f.id f.word f.now,if fG s f.id f.word f.now=true then {f with next:=15}.fin (jf f.b false f.dU.addr f.dU.port) (u4 f.b)else {f with next:=15}):=by unfold hZ;rw[if_neg (by omega),if_neg (by omega),if_neg heq]
   rw[es,decide_eq_false heq]
   clear es
   repeat first|refine aa ?_ |intro
   refine aL 99 (NH pn c R*(Obj q 80 (cF f Q)*1)) rfl rfl rfl ?_
   repeat(first|refine aq ?_ |refine eD ?_)
   refine aI rfl rfl rfl rfl rfl (Spec.aV R.pl (uR (id:=f.id) (a:=f.word) (b:=f.now) hc hp h0 h1 jT DO)) (fun _=>ad) ?_
   intro _
   repeat(first|refine aq ?_ |refine eD ?_)
   cases jM:fG s f.id f.word f.now with
   |true=>
    rw[if_pos rfl]
    repeat first|refine aa ?_ |intro
    obtain⟨g,hg⟩:∃g:aH,g={f with next:=15}:=⟨_,rfl⟩
    have oh:g.b=f.b:=by rw[hg]
    have kA:g.dU=f.dU:=by rw[hg]
    have rJ:g.b.length≤140737488355328:=by rw[oh];exact oc
    refine jE (G:=cr q g Q (NH pn c R*(aM R.pl (bN s f.id f.word f.now).pl*F))) (by rw[hg];exact ad) ?_
    simp only[cr]
    refine aL 18 (NH pn c R*(Obj q 80 (cF g Q)*1)) rfl rfl rfl ?_
    repeat(first|refine aq ?_ |refine eD ?_)
    refine aI rfl rfl rfl rfl rfl (Gc (l:=g.b) rJ g.dU.addr g.dU.port (by rw[kA];exact I1) (by rw[kA];exact wv)) (fun _=>ad) ?_
    intro z
    repeat(first|refine aq ?_ |refine eD ?_)
    simp only[vC]
    refine kh rfl rfl rfl rfl (Spec.pre (yY (q:=q) (f:=g) (l:=jf g.b false g.dU.addr g.dU.port) (z:=z) (e:=dz g.b) (F:=NH pn c R*(aM R.pl (bN s f.id f.word f.now).pl*F))) (U.cons (aG.bW Q (by rfl) (ad)))) ?_
    intro _
    repeat(first|refine aq ?_ |refine eD ?_)
    repeat first|refine aa ?_ |intro
    rw[oh,kA,hg]
    exact aN (aO rfl () rfl (U.sat (ad)))
   |false=>
    rw[if_neg Bool.false_ne_true]
    repeat first|refine aa ?_ |intro
    exact aN (aO rfl () rfl (U.sat (aG.bW Q (by rfl) (ad))))
end
section
open Go.RowKit
set_option maxRecDepth 10000
attribute [local irreducible] EK EX ER EN EL ES EG az ba bf
variable {W:World} {F G:SL} {X:Cx} {kk:List KI} {σ:Env} {pn q:Option Addr} {f:aH} {c:NC} {R:eJ} {s:aW} {k:aR} {P:dS} {pp:Nat→Option Addr} {pc pw po:Option Addr}
theorem Zy {o:Nat}{out:Bool}{l:List UInt8}(h:jj o out l=0):dw false l=0∧iG (bd l) l=0:=by
 unfold jj at h
 split at h
 ·rename_i h1;exact absurd h h1
 ·rename_i h1
  have h1:=Decidable.not_not.1 h1
  unfold dz at h1
  split at h1
  ·rename_i h2;exact⟨h2,h1⟩
  ·rename_i h2;exact absurd h1 h2
set_option maxHeartbeats 2000000 in
theorem Wg {w:Nat}(hc:c.Ok)(oc:f.b.length≤140737488355328)(hw:w<s.gs.length)(hg:s.gs.length≤64):
  Spec Tryz.prog 46 [.pointer pn,.int .i64 (w:Int),.pointer q] W (aG q f*(NH pn c R*(bP R.ep s.ep s.gs*F))) (fun _:Unit=> .tuple #[]) (fun _=>aG q (nP c w f)*(NH pn c R*(bP R.ep s.ep s.gs*F))):=by
 refine Spec.of Tryz.func46 rfl Tryz.ntmps46 rfl ?_
 by_cases ht:f.tick<0∨f.tick>4294967295
 ·have es:nP c w f=f.refuse 1:=by unfold nP;rw[if_pos ht]
  rw[es]
  refine aG.open fun Q=> ?_
  simp only[cr]
  by_cases uI:f.tick<0
  ·repeat first|refine aa ?_ |intro
   refine ag rfl (Spec.pre (za (q:=q) (f:=f) (e:=1) (F:=(NH pn c R*(bP R.ep s.ep s.gs*F)))) (aG.bW Q (by rfl) (ad))) ?_
   intro _
   repeat first|refine aa ?_ |intro
   exact ae (dB rfl () rfl (U.sat (ad)))
  ·have uJ:f.tick>4294967295:=by omega
   repeat first|refine aa ?_ |intro
   refine ag rfl (Spec.pre (za (q:=q) (f:=f) (e:=1) (F:=(NH pn c R*(bP R.ep s.ep s.gs*F)))) (aG.bW Q (by rfl) (ad))) ?_
   intro _
   repeat first|refine aa ?_ |intro
   exact ae (dB rfl () rfl (U.sat (ad)))
 have uI:¬f.tick<0:=by omega
 have uJ:¬f.tick>4294967295:=by omega
 have mU:c.cfg.o.toNat=c.o:=by unfold NC.cfg;dsimp only;omega
 have hW:∀G,∀(p:Option Addr) (cc:Nat) [Src W G p f.b.length (aA f.b)] [Room W G p f.b.length cc],Spec Tryz.prog 80 [.agg c.cfg.cells.toArray,.bool f.out,.slice p f.b.length cc] W G (fun _:Unit=>uY (su c.o f.out f.b) (jj c.o f.out f.b)) (fun _=>G):=fun G p cc _ _=>by
  have:=Py (W:=W) (F:=G) (p:=p) (c:=cc) oc c.cfg (by unfold NC.cfg;dsimp only;omega) f.out
  rw[mU]at this
  exact this
 have es:nP c w f=if jj c.o f.out f.b≠0 then f.refuse (jj c.o f.out f.b)
 else if f.out=false∧iH c.cfg (cQ f.out f.b).proto (cQ f.out f.b).port<0 then
  {f with part:=dv f.b,ar:=cQ f.out f.b,fW:=kU f.out f.b,id:=iH c.cfg (cQ f.out f.b).proto (cQ f.out f.b).port}.refuse 7
 else {f with part:=dv f.b,ar:=cQ f.out f.b,fW:=kU f.out f.b,id:=if f.out=true then f.id else iH c.cfg (cQ f.out f.b).proto (cQ f.out f.b).port,bE:=some ⟨w,false,0,0,false,false⟩,next:=1}:=by
  unfold nP;rw[if_neg ht]
 rw[es]
 clear es
 refine aG.open fun Q=> ?_
 simp only[cr]
 repeat first|refine aa ?_ |intro
 generalize tw:su c.o f.out f.b=wt at*
 generalize zP:jj c.o f.out f.b=we at*
 refine kN (γ:=Option Addr) (fun _=>True) (fun y=>[(0,.pointer pn),(1,.int .i64 (w:Int)),(2,.pointer q),(6,.pointer y),(7,.int .i64 (we:Int))]) (fun y=>Obj y 53 (jK wt)*cr q f Q (NH pn c R*(bP R.ep s.ep s.gs*F))) ?_ ?_
 ·refine aL 17 (NH pn c R*(Obj q 80 (cF f Q)*1)) rfl rfl rfl ?_
  repeat(first|refine aq ?_ |refine eD ?_)
  refine qP (i:=12) (j:=16) (sx rfl rfl rfl rfl (hW _ _ _) (fun _=>ad) ?_) (sA rfl rfl (pO rfl) rfl (fun _=>ad) ?_)
  ·intro _
   repeat(first|refine aq ?_ |refine aY 0 rfl rfl rfl rfl (by decide+kernel) (av) rfl ?_ |refine aY 1 rfl rfl rfl rfl (by decide+kernel) (av) rfl ?_ |refine aY 2 rfl rfl rfl rfl (by decide+kernel) (av) rfl ?_ |refine aY 3 rfl rfl rfl rfl (by decide+kernel) (av) rfl ?_)
   repeat(first|refine bQ ?_ |(refine bU ?_;intro)|refine bR ?_ |refine bS ?_ |refine bT ?_ |refine eD ?_)
   rename_i y
   repeat first|refine aa ?_ |intro
   exact ei y trivial ⟨rfl,rfl,rfl,rfl,rfl,trivial⟩ (U.sat (ad))
  ·intro y
   refine aI rfl rfl rfl rfl rfl (hW _ _ _) (fun _=>ad) ?_
   intro _
   repeat(first|refine aq ?_ |refine aY 0 rfl rfl rfl rfl (by decide+kernel) (av) rfl ?_ |refine aY 1 rfl rfl rfl rfl (by decide+kernel) (av) rfl ?_ |refine aY 2 rfl rfl rfl rfl (by decide+kernel) (av) rfl ?_ |refine aY 3 rfl rfl rfl rfl (by decide+kernel) (av) rfl ?_)
   repeat(first|refine bQ ?_ |(refine bU ?_;intro)|refine bR ?_ |refine bS ?_ |refine bT ?_ |refine eD ?_)
   repeat first|refine aa ?_ |intro
   exact ei y trivial ⟨rfl,rfl,rfl,rfl,rfl,trivial⟩ (U.sat (ad))
 intro y _
 simp only[cr]
 by_cases h0:we=0
 ·rw[if_neg (fun hh=>hh h0)]
  have wK:=Zy (zP.trans h0)
  have eW:wt=cQ f.out f.b:=by rw[←tw];unfold su;rw[zP,if_pos h0]
  rw[h0]at zP
  have lb:=Mt f.out f.b
  rw[←eW]at lb
  rw[←eW]
  clear tw zP hW eW
  repeat first|refine aa ?_ |intro
  refine ag rfl (Dc oc) ?_
  intro _
  rw[lV wK.1,wK.1,if_pos rfl]
  have SY:=pK.of wK.1
  have Rj:oy (bd f.b) f.b=dv f.b:=if_pos wK.2
  have Jj:=fun G (p:Option Addr) (cc:Nat) [Src W G p f.b.length (aA f.b)] [Room W G p f.b.length cc]=>EJ (W:=W) (F:=G) (p:=p) (c:=cc) (bd f.b) SY
  rw[Rj,wK.2]at Jj
  generalize bd f.b=hd at*
  generalize dv f.b=pt at*
  generalize sY:kU f.out f.b=bg at*
  repeat first|refine aa ?_ |intro
  rename_i x
  refine aL 12 (Obj x 71 (cN hd)*(Obj q 80 (cF f Q)*1)) rfl rfl rfl ?_
  repeat(first|refine aq ?_ |refine aY 0 rfl rfl rfl rfl (by decide+kernel) (av) rfl ?_ |refine aY 1 rfl rfl rfl rfl (by decide+kernel) (av) rfl ?_ |refine aY 2 rfl rfl rfl rfl (by decide+kernel) (av) rfl ?_ |refine aY 3 rfl rfl rfl rfl (by decide+kernel) (av) rfl ?_)
  refine aI rfl rfl rfl rfl rfl (Jj _ _ _) (fun _=>ad) ?_
  intro _
  repeat(first|refine aq ?_ |refine aY 0 rfl rfl rfl rfl (by decide+kernel) (av) rfl ?_ |refine aY 1 rfl rfl rfl rfl (by decide+kernel) (av) rfl ?_ |refine aY 2 rfl rfl rfl rfl (by decide+kernel) (av) rfl ?_ |refine aY 3 rfl rfl rfl rfl (by decide+kernel) (av) rfl ?_)
  (refine my rfl (di rfl rfl rfl rfl rfl rfl) (by decide+kernel) rfl ?_);repeat(first|refine gu rfl rfl rfl (iy rfl rfl) (by decide+kernel) (by decide+kernel) rfl ?_ |refine gu rfl rfl rfl (ix rfl rfl) (by decide+kernel) (by decide+kernel) rfl ?_ |refine mz rfl rfl (di rfl rfl rfl rfl rfl rfl) (by decide+kernel) (by decide+kernel) rfl ?_ |refine eD ?_)
  repeat first|refine aa ?_ |intro
  obtain⟨g,s8⟩:∃g:aH,g={f with part:=pt}:=⟨_,rfl⟩
  have s7:g.b=f.b:=by rw[s8]
  have Dt:g.out=f.out:=by rw[s8]
  have IS:=fun G (p:Option Addr) (cc:Nat) [Src W G p g.b.length (aA g.b)] [Room W G p g.b.length cc]=>NP (W:=W) (F:=G) (p:=p) (c:=cc) (l:=g.b) (by rw[s7];exact oc) g.out
  have SD:kU g.out g.b=bg:=by rw[Dt,s7,sY]
  rw[SD]at IS
  refine jE (G:=Obj y 53 (jK wt)*cr q g Q (NH pn c R*(bP R.ep s.ep s.gs*F))) (by rw[s8];exact ad) ?_
  simp only[cr]
  refine aL 14 (Obj y 53 (jK wt)*(Obj q 80 (cF g Q)*1)) rfl rfl rfl ?_
  repeat(first|refine aq ?_ |refine aY 0 rfl rfl rfl rfl (by decide+kernel) (av) rfl ?_ |refine aY 1 rfl rfl rfl rfl (by decide+kernel) (av) rfl ?_ |refine aY 2 rfl rfl rfl rfl (by decide+kernel) (av) rfl ?_ |refine aY 3 rfl rfl rfl rfl (by decide+kernel) (av) rfl ?_)
  refine aI rfl rfl rfl rfl rfl (IS _ _ _) (fun _=>ad) ?_
  intro _
  repeat(first|refine aq ?_ |refine aY 0 rfl rfl rfl rfl (by decide+kernel) (av) rfl ?_ |refine aY 1 rfl rfl rfl rfl (by decide+kernel) (av) rfl ?_ |refine aY 2 rfl rfl rfl rfl (by decide+kernel) (av) rfl ?_ |refine aY 3 rfl rfl rfl rfl (by decide+kernel) (av) rfl ?_)
  (refine my rfl (di rfl rfl rfl rfl rfl rfl) (by decide+kernel) rfl ?_);repeat(first|refine gu rfl rfl rfl (iy rfl rfl) (by decide+kernel) (by decide+kernel) rfl ?_ |refine gu rfl rfl rfl (ix rfl rfl) (by decide+kernel) (by decide+kernel) rfl ?_ |refine mz rfl rfl (di rfl rfl rfl rfl rfl rfl) (by decide+kernel) (by decide+kernel) rfl ?_ |refine eD ?_)
  repeat first|refine aa ?_ |intro
  obtain⟨g2,kA⟩:∃g2:aH,g2={g with ar:=wt,fW:=bg}:=⟨_,rfl⟩
  have adO:g2.out=f.out:=by rw[kA,s8]
  refine jE (G:=Obj y 53 (jK wt)*cr q g2 Q (NH pn c R*(bP R.ep s.ep s.gs*F))) (by rw[kA];exact ad) ?_
  simp only[cr]
  rcases Bool.eq_false_or_eq_true f.out with ho|ho
  ·rw[if_neg (fun hh=>by rw[ho]at hh;cases hh.1),if_pos ho]
   rw[Dt.trans ho]
   repeat first|refine aa ?_ |intro
   refine ag rfl (Spec.aV R.ep (F2 hw hg)) ?_
   intro z
   repeat first|refine aa ?_ |intro
   subst kA s8
   refine aN (aO rfl () rfl (U.sat (aG.bW {Q with bE:=z} (by rfl) ?_)))
   simp only[cy]
   exact ad
  ·rw[Dt.trans ho]
   have T1:lC ((wt.port:Nat):Int):=by unfold lC;have:=lb.2.2;omega
   repeat first|refine aa ?_ |intro
   refine aL 13 (Obj y 53 (jK wt)*(NH pn c R*(Obj q 80 (cF g2 Q)*1))) rfl rfl rfl ?_
   repeat(first|refine aq ?_ |refine aY 0 rfl rfl rfl rfl (by decide+kernel) (av) rfl ?_ |refine aY 1 rfl rfl rfl rfl (by decide+kernel) (av) rfl ?_ |refine aY 2 rfl rfl rfl rfl (by decide+kernel) (av) rfl ?_ |refine aY 3 rfl rfl rfl rfl (by decide+kernel) (av) rfl ?_)
   refine aI rfl rfl rfl rfl rfl (GO c.cfg hc.fit wt.proto wt.port T1) (fun _=>ad) ?_
   intro _
   repeat(first|refine aq ?_ |refine aY 0 rfl rfl rfl rfl (by decide+kernel) (av) rfl ?_ |refine aY 1 rfl rfl rfl rfl (by decide+kernel) (av) rfl ?_ |refine aY 2 rfl rfl rfl rfl (by decide+kernel) (av) rfl ?_ |refine aY 3 rfl rfl rfl rfl (by decide+kernel) (av) rfl ?_)
   (refine my rfl (di rfl rfl rfl rfl rfl rfl) (by decide+kernel) rfl ?_);repeat(first|refine gu rfl rfl rfl (iy rfl rfl) (by decide+kernel) (by decide+kernel) rfl ?_ |refine gu rfl rfl rfl (ix rfl rfl) (by decide+kernel) (by decide+kernel) rfl ?_ |refine mz rfl rfl (di rfl rfl rfl rfl rfl rfl) (by decide+kernel) (by decide+kernel) rfl ?_ |refine eD ?_)
   generalize iH c.cfg wt.proto wt.port=ip at*
   by_cases wv:ip<0
   ·rw[if_pos ⟨ho,wv⟩]
    repeat first|refine aa ?_ |intro
    refine ag rfl (Spec.pre (za (q:=q) (f:={g2 with id:=ip}) (e:=7) (F:=(NH pn c R*(bP R.ep s.ep s.gs*F)))) (aG.bW Q (by rfl) (ad))) ?_
    intro _
    repeat first|refine aa ?_ |intro
    subst kA s8
    exact ae (dB rfl () rfl (U.sat (ad)))
   ·rw[if_neg (fun hh=>wv hh.2),if_neg (fun hh=>by rw[ho]at hh;cases hh)]
    repeat first|refine aa ?_ |intro
    refine ag rfl (Spec.aV R.ep (F2 hw hg)) ?_
    intro z
    repeat first|refine aa ?_ |intro
    subst kA s8
    refine aN (aO rfl () rfl (U.sat (aG.bW {Q with bE:=z} (by rfl) ?_)))
    simp only[cy]
    exact ad
 ·rw[if_pos h0]
  repeat first|refine aa ?_ |intro
  refine ag rfl (Spec.pre (za (q:=q) (f:=f) (e:=we) (F:=(NH pn c R*(bP R.ep s.ep s.gs*F)))) (aG.bW Q (by rfl) (ad))) ?_
  intro _
  repeat first|refine aa ?_ |intro
  exact ae (dB rfl () rfl (U.sat (ad)))
end
section
open Go.RowKit
set_option maxRecDepth 10000
attribute [local irreducible] EK EX ER EN EL ES EG az ba bf
variable {W:World} {F G:SL} {X:Cx} {kk:List KI} {σ:Env} {pn q:Option Addr} {f:aH} {c:NC} {R:eJ} {s:aW} {k:aR} {P:dS} {pp:Nat→Option Addr} {pc pw po:Option Addr}
theorem jz (s:aW)(id:Int)(a b:aJ):(bN s id a b).ep=s.ep∧(bN s id a b).gs=s.gs∧(bN s id a b).tb=s.tb∧(bN s id a b).p0=s.p0∧(bN s id a b).p1=s.p1∧(bN s id a b).p2=s.p2:=by
 unfold bN
 split<;>exact⟨rfl,rfl,rfl,rfl,rfl,rfl⟩
theorem UL:(fw c s k f).1.ep=s.ep∧(fw c s k f).1.gs=s.gs:=by
 unfold fw
 repeat' split
 all_goals first|exact⟨rfl,rfl⟩|exact⟨(jz _ _ _ _).1,(jz _ _ _ _).2.1⟩
theorem UM:aE (bI c R (fw c s k f).1) 3=aE (bI c R s) 3:=by
 unfold fw
 repeat' split
 all_goals first|rfl|(unfold bN;split<;>rfl)
theorem R6:(cC c s k f).1.ep=s.ep∧(cC c s k f).1.gs=s.gs:=by
 unfold cC
 repeat' split
 all_goals first|exact⟨rfl,rfl⟩|exact⟨(jz _ _ _ _).1,(jz _ _ _ _).2.1⟩|exact⟨(qy _ _ _).2.2.1,(qy _ _ _).2.2.2⟩|(dsimp only;split<;>first|exact⟨rfl,rfl⟩|exact⟨(jz _ _ _ _).1,(jz _ _ _ _).2.1⟩)
theorem Rt:(fi c s k f).1.ep=s.ep∧(fi c s k f).1.gs=s.gs:=by
 unfold fi
 repeat' split
 all_goals first|exact⟨rfl,rfl⟩|exact⟨(jz _ _ _ _).1,(jz _ _ _ _).2.1⟩
theorem Ua:(hZ c s f).1.ep=s.ep∧(hZ c s f).1.gs=s.gs∧(hZ c s f).1.tb=s.tb:=by
 unfold hZ
 repeat' split
 all_goals first|exact⟨rfl,rfl,rfl⟩|exact⟨(jz _ _ _ _).1,(jz _ _ _ _).2.1,(jz _ _ _ _).2.2.1⟩
theorem Ub:aE (bI c R (hZ c s f).1) 3=aE (bI c R s) 3:=by
 unfold hZ
 repeat' split
 all_goals first|rfl|(unfold bN;split<;>rfl)
structure vE (c:NC)(w:Nat)(s:aW)(k:aR)(f:aH):Prop where
 w:w<c.n
 gs:s.gs.length=c.n
 ep:vp c.n s.ep s.gs
 pl:cK (3*c.np) s.pl
 tb:dD c.nb (3*c.np) s.tb
 wk:nV c s k
 da:f.b.length≤140737488355328
 le:f.next≤18
 fin:f.next=1→fB f
 bE:f.next=1→∃e,f.bE=some e∧e.Ok c.n∧e.done=false
 known:2≤f.next→f.next≤5→Gr c f
 fresh:6≤f.next→f.next≤11→qU c k f
 enters:12≤f.next→f.next≤14→vo c k f
 JB:15≤f.next→f.next≤17→Gb c f
set_option maxHeartbeats 4000000 in
theorem Wi {w:Nat}(hT:gE W)(hc:c.Ok)(h:vE c w s k f):
  Spec Tryz.prog 24 [.pointer pn,.int .i64 (w:Int),.pointer P.p,.pointer q] W (aG q f*br R.po P k (NH pn c R*dj c R s F)) (fun _:Unit=> .tuple #[]) (fun _=>aG q (bZ c w s k f).2.2*br R.po P (bZ c w s k f).2.1 (NH pn c R*dj c R (bZ c w s k f).1 F)):=by
 refine Spec.of Tryz.func24 rfl Tryz.ntmps24 rfl ?_
 have Du:=h.gs
 have oY:=hc.n
 have hle:=h.le
 have j9:=hc.rk
 have jt:f.next=0∨f.next=1∨(2≤f.next∧f.next≤5)∨(6≤f.next∧f.next≤11)∨(12≤f.next∧f.next≤14)∨(15≤f.next∧f.next≤17)∨f.next=18:=by omega
 rcases jt with e|e|⟨e1,e2⟩|⟨e1,e2⟩|⟨e1,e2⟩|⟨e1,e2⟩|e
 ·have es:bZ c w s k f=(s,k,nP c w f):=by unfold bZ;rw[if_pos e]
  rw[es]
  refine aG.open fun Q=> ?_
  simp only[cr,br,dj]
  repeat first|refine aa ?_ |intro
  refine ag rfl (Spec.pre (Wg (pn:=pn) (q:=q) (f:=f) (R:=R) (s:=s) (w:=w) (F:=br R.po P k (aM R.pl s.pl*(aK R.tb R.pl c.nb s.tb*(aE (bI c R s) 3*F)))) hc h.da (by have:=h.w;omega) (by omega)) (aG.bW Q (by rfl) (by simp only[br];exact ad))) ?_
  intro _
  repeat first|refine aa ?_ |intro
  exact aN (aO rfl () rfl (U.sat (ad)))
 ·obtain⟨p,IY,oo,Ty⟩:=h.bE e
  have uG:=h.fin e
  have es:bZ c w s k f=({s with ep:=(dt c.n s.ep p).1},k,if(dt c.n s.ep p).2.done=false then {f with bE:=some (dt c.n s.ep p).2}
    else if f.out=true then {f with bE:=some (dt c.n s.ep p).2,pinned:=true}.look c else {f with bE:=some (dt c.n s.ep p).2,pinned:=true,next:=15}):=by
   unfold bZ;rw[if_neg (by omega),if_pos e,IY]
  rw[es]
  clear es
  have og:∀(Q0:Option Addr) G,Spec Tryz.prog 47 [.pointer R.ep,.pointer Q0] W (cD Q0 p*(bP R.ep s.ep s.gs*G)) (fun _:Unit=> .bool (dt c.n s.ep p).2.done) (fun _=>cD Q0 (dt c.n s.ep p).2*(bP R.ep (dt c.n s.ep p).1 s.gs*G)):=fun Q0 G=>by
   have:=N7 (W:=W) (F:=G) (p:=R.ep) (q:=Q0) (ws:=s.ep) (gs:=s.gs) (s:=p) (by rw[Du];exact h.ep) (by rw[Du];exact oo) (by omega) Ty
   rw[Du]at this
   exact this
  have j7:∀z,aE (bI c R {s with ep:=z}) 3=aE (bI c R s) 3:=fun _=>rfl
  refine aG.open fun Q=> ?_
  simp only[cr,br,dj,j7,IY,cy]
  repeat first|refine aa ?_ |intro
  refine aL 99 (NH pn c R*(Obj q 80 (cF f Q)*1)) rfl rfl rfl ?_
  repeat(first|refine aq ?_ |refine eD ?_)
  refine aI rfl rfl rfl rfl rfl (Spec.fE Q.bE R.ep (og Q.bE _)) (fun _=>ad) ?_
  intro _
  repeat(first|refine aq ?_ |refine eD ?_)
  generalize dt c.n s.ep p=D at*
  obtain⟨gB,p'⟩:=D
  dsimp only at*
  cases hd:p'.done with
  |false=>
   rw[if_pos rfl]
   repeat first|refine aa ?_ |intro
   refine aN (aO rfl () rfl (U.sat (aG.bW Q (by rfl) ?_)))
   simp only[cy]
   exact ad
  |true=>
   rw[if_neg (fun hh=>by cases hh)]
   rcases Bool.eq_false_or_eq_true f.out with ho|ho
   ·rw[if_pos ho,show aH.look c {f with bE:=some p',pinned:=true}=aH.look c {f with bE:=some p',pinned:=true,next:=15}from rfl]
    repeat first|refine aa ?_ |intro
    refine vn (by rw[ho];rfl) ?_
    repeat first|refine aa ?_ |intro
    have cB:fB {f with bE:=some p',pinned:=true,next:=15}:=⟨uG.da,uG.tick,uG.proto,uG.addr,uG.port,uG.flags⟩
    refine ag rfl (Spec.pre (CX (pn:=pn) (q:=q) (R:=R) (s:=s) (f:={f with bE:=some p',pinned:=true,next:=15}) (F:=br R.po P k (bP R.ep gB s.gs*(aM R.pl s.pl*(aE (bI c R s) 3*F)))) j9 cB) (aG.bW Q (by rfl) (by simp only[cy,br];exact ad))) ?_
    intro _
    repeat first|refine aa ?_ |intro
    exact aN (aO rfl () rfl (U.sat (by simp only[br];exact ad)))
   ·rw[if_neg (fun hh=>by rw[ho]at hh;cases hh)]
    repeat first|refine aa ?_ |intro
    refine vm (by rw[ho];rfl) ?_
    repeat first|refine aa ?_ |intro
    refine aN (aO rfl () rfl (U.sat (aG.bW Q (by rfl) ?_)))
    simp only[cy]
    exact ad
 ·have es:bZ c w s k f=((fw c s k f).1,k,(fw c s k f).2):=by unfold bZ;rw[if_neg (by omega),if_neg (by omega),if_pos e2]
  rw[es]
  obtain⟨g1,g2⟩:=UL (c:=c) (s:=s) (k:=k) (f:=f)
  have g3:=UM (R:=R) (c:=c) (s:=s) (k:=k) (f:=f)
  refine aG.open fun Q=> ?_
  simp only[cr,br,dj,g1,g2,g3]
  have jt:f.next=2∨f.next=3∨f.next=4∨f.next=5:=by omega
  rcases jt with e|e|e|e
  all_goals
   repeat first|refine aa ?_ |intro
   refine ag rfl (Spec.pre (Wa (pn:=pn) (q:=q) (f:=f) (R:=R) (s:=s) (k:=k) (P:=P) (F:=bP R.ep s.ep s.gs*F) hc h.pl h.tb h.wk (h.known e1 e2) e1 e2) (aG.bW Q (by rfl) (by simp only[br];exact ad))) ?_
   intro _
   repeat first|refine aa ?_ |intro
   exact aN (aO rfl () rfl (U.sat (by simp only[br];exact ad)))
 ·have es:bZ c w s k f=cC c s k f:=by unfold bZ;rw[if_neg (by omega),if_neg (by omega),if_neg (by omega),if_pos e2]
  rw[es]
  obtain⟨g1,g2⟩:=R6 (c:=c) (s:=s) (k:=k) (f:=f)
  refine aG.open fun Q=> ?_
  simp only[cr,br,dj,g1,g2]
  have jt:f.next=6∨f.next=7∨f.next=8∨f.next=9∨f.next=10∨f.next=11:=by omega
  rcases jt with e|e|e|e|e|e
  all_goals
   repeat first|refine aa ?_ |intro
   refine ag rfl (Spec.pre (V7 (pn:=pn) (q:=q) (f:=f) (R:=R) (s:=s) (k:=k) (P:=P) (F:=bP R.ep s.ep s.gs*F) hT hc h.pl h.tb h.wk (h.fresh e1 e2) e1 e2) (aG.bW Q (by rfl) (by simp only[br];exact ad))) ?_
   intro _
   repeat first|refine aa ?_ |intro
   exact aN (aO rfl () rfl (U.sat (by simp only[hF,br];exact ad)))
 ·have es:bZ c w s k f=fi c s k f:=by unfold bZ;rw[if_neg (by omega),if_neg (by omega),if_neg (by omega),if_neg (by omega),if_pos e2]
  rw[es]
  obtain⟨g1,g2⟩:=Rt (c:=c) (s:=s) (k:=k) (f:=f)
  refine aG.open fun Q=> ?_
  simp only[cr,br,dj,g1,g2]
  have jt:f.next=12∨f.next=13∨f.next=14:=by omega
  rcases jt with e|e|e
  all_goals
   repeat first|refine aa ?_ |intro
   refine ag rfl (Spec.pre (V4 (pn:=pn) (q:=q) (f:=f) (R:=R) (s:=s) (k:=k) (P:=P) (F:=bP R.ep s.ep s.gs*F) hc h.pl h.tb h.wk (h.enters e1 e2) e1 e2) (aG.bW Q (by rfl) (by simp only[br];exact ad))) ?_
   intro _
   repeat first|refine aa ?_ |intro
   exact aN (aO rfl () rfl (U.sat (by simp only[hF,br];exact ad)))
 ·have es:bZ c w s k f=((hZ c s f).1,k,(hZ c s f).2):=by unfold bZ;rw[if_neg (by omega),if_neg (by omega),if_neg (by omega),if_neg (by omega),if_neg (by omega),if_pos e2]
  rw[es]
  obtain⟨g1,g2,g4⟩:=Ua (c:=c) (s:=s) (f:=f)
  have g3:=Ub (R:=R) (c:=c) (s:=s) (f:=f)
  refine aG.open fun Q=> ?_
  simp only[cr,br,dj,g1,g2,g3,g4]
  have jt:f.next=15∨f.next=16∨f.next=17:=by omega
  rcases jt with e|e|e
  all_goals
   repeat first|refine aa ?_ |intro
   refine ag rfl (Spec.pre (V8 (pn:=pn) (q:=q) (f:=f) (R:=R) (s:=s) (F:=br R.po P k (bP R.ep s.ep s.gs*(aK R.tb R.pl c.nb s.tb*(aE (bI c R s) 3*F)))) hc h.pl (h.JB e1 e2) e1 e2) (aG.bW Q (by rfl) (by simp only[br];exact ad))) ?_
   intro _
   repeat first|refine aa ?_ |intro
   exact aN (aO rfl () rfl (U.sat (by simp only[br];exact ad)))
 ·have es:bZ c w s k f=({s with ep:=s.ep.set (1+w) 0},k,{f with pinned:=false,done:=true}):=by unfold bZ;rw[if_neg (by omega),if_neg (by omega),if_neg (by omega),if_neg (by omega),if_neg (by omega),if_neg (by omega)]
  rw[es]
  have wg:=h.ep
  have hw:=h.w
  have j7:∀z,aE (bI c R {s with ep:=z}) 3=aE (bI c R s) 3:=fun _=>rfl
  refine aG.open fun Q=> ?_
  simp only[cr,br,dj,j7]
  repeat first|refine aa ?_ |intro
  refine ag rfl (Spec.aV R.ep (Ov (w:=w) (by omega) (by omega) (by have:=wg.len;omega))) ?_
  intro _
  repeat first|refine aa ?_ |intro
  exact aN (aO rfl () rfl (U.sat (aG.bW Q (by rfl) (ad))))
end
section
open Go.RowKit
set_option maxRecDepth 10000
attribute [local irreducible] EK EX ER EN EL ES EG az ba bf
variable {W:World} {F G:SL} {X:Cx} {kk:List KI} {σ:Env} {pn r b:Option Addr} {x:gR} {c:NC} {R:eJ} {s:aW} {k:aR} {P:dS} {pp:Nat→Option Addr} {pc pw po:Option Addr}
theorem Cy {P':dS}{k':aR}(hc:P'.c=P.c)(hq:P'.q=P.q)(h0:k'.c0=k.c0)(h1:k'.c1=k.c1)(h2:k'.c2=k.c2):aE (eG pp P' k') 3=aE (eG pp P k) 3:=
 aE.congr 3 fun i hi=>by
  unfold eG aR.ca
  rw[hc,hq,h0,h1,h2]
end
section
open Go.RowKit
set_option maxRecDepth 10000
attribute [local irreducible] EK EX ER EN EL ES EG az ba bf
variable {W:World} {F G:SL} {X:Cx} {kk:List KI} {σ:Env} {pn:Option Addr} {c:NC} {R:eJ} {k:aR} {P:dS} {b:Option Addr}
theorem uQ:Spec Tryz.prog 22 [.pointer P.p] W (Obj P.p 88 (cR P k)*(bu (aG P.fr) k.frame*(bu (fun x=>gC P.sw x b) k.aX*F))) (fun _:Unit=> .bool k.busy) (fun _=>Obj P.p 88 (cR P k)*(bu (aG P.fr) k.frame*(bu (fun x=>gC P.sw x b) k.aX*F))):=by
 refine Spec.of Tryz.func22 rfl Tryz.ntmps22 rfl ?_
 unfold aR.busy
 cases hf:k.frame with
 |some f=>
  simp only[cy,cR,hf,show jZ (some f) P.fr=P.fr from rfl]
  repeat first|refine aa ?_ |intro
  exact ae (aw rfl rfl () rfl (U.sat (ad)))
 |none=>
  cases hs:k.aX with
  |some x=>
   simp only[cy,ia,cR,hf,hs,ln,show jZ (some x) P.sw=P.sw from rfl]
   repeat first|refine aa ?_ |intro
   exact ae (aw rfl rfl () rfl (U.sat (ad)))
  |none=>
   simp only[ia,cR,hf,hs,ln]
   repeat first|refine aa ?_ |intro
   exact ae (aw rfl rfl () rfl (U.sat (ad)))
theorem xx {w:Nat}(hw:w<c.n):Spec Tryz.prog 21 [.pointer pn,.int .i64 (w:Int)] W (NH pn c R*(ao 66 1 R.ws.1 c.n R.ws.2 (c9 c.n fun i=>(R.wk i).p)*F)) (fun _:Unit=> .pointer (R.wk w).p) (fun _=>NH pn c R*(ao 66 1 R.ws.1 c.n R.ws.2 (c9 c.n fun i=>(R.wk i).p)*F)):=by
 refine Spec.of Tryz.func21 rfl Tryz.ntmps21 rfl ?_
 repeat first|refine aa ?_ |intro
 exact ae (aw rfl rfl () rfl (U.sat (ad)))
end
section
open Go.RowKit
set_option maxRecDepth 10000
attribute [local irreducible] EK EX ER EN EL ES EG az ba bf
variable {W:World} {F G:SL} {X:Cx} {kk:List KI} {σ:Env} {pn:Option Addr} {c:NC} {R:eJ} {s:aW} {k:aR} {P:dS} {b:Option Addr} {f:aH}
theorem Fh (k:aR)(i:Nat)(a:dC):(k.bK i a).frame=k.frame∧(k.bK i a).aX=k.aX:=⟨(nO k i a).1,(nO k i a).2.1⟩
theorem L1 {w:Nat}:(bZ c w s k f).2.1.frame=k.frame∧(bZ c w s k f).2.1.aX=k.aX:=by
 have ha:∀p i v t,(jo {k with cm:=ir k.cm f.id f.ar} p i v t).frame=k.frame∧(jo {k with cm:=ir k.cm f.id f.ar} p i v t).aX=k.aX:=fun p i v t=>by
  rw[yH];exact⟨rfl,rfl⟩
 unfold bZ
 repeat' split
 all_goals first|exact⟨rfl,rfl⟩|skip
 ·unfold cC
  repeat' split
  all_goals first|exact⟨rfl,rfl⟩|exact Fh _ _ _|(dsimp only;split<;>first|exact⟨rfl,rfl⟩|exact Fh _ _ _)
 ·unfold fi
  repeat' split
  all_goals first|exact⟨rfl,rfl⟩|exact Fh _ _ _|exact ha _ _ _ _
def ft (k:aR)(f:aH):aR:=if f.done=true then {k with cj:=f.fD,iM:=f.lH,any:=true,frame:=none}else {k with frame:=some f}
theorem Wh {w:Nat}(hT:gE W)(hc:c.Ok)(hw:w<c.n)(hP:R.wk w=P)(hf:k.frame=some f)(h:vE c w s k f):
  Spec Tryz.prog 9 [.pointer pn,.int .i64 (w:Int)] W (aG P.fr f*br R.po P k (NH pn c R*dj c R s (bu (fun x=>gC P.sw x b) k.aX*(ao 66 1 R.ws.1 c.n R.ws.2 (c9 c.n fun i=>(R.wk i).p)*F)))) (fun _:aP=> .bool (!(ft (bZ c w s k f).2.1 (bZ c w s k f).2.2).busy))
   (fun z=>br R.po {P with told:=z} (ft (bZ c w s k f).2.1 (bZ c w s k f).2.2) (bu (aG P.fr) (ft (bZ c w s k f).2.1 (bZ c w s k f).2.2).frame*(NH pn c R*dj c R (bZ c w s k f).1 (bu (fun x=>gC P.sw x b) k.aX*(ao 66 1 R.ws.1 c.n R.ws.2 (c9 c.n fun i=>(R.wk i).p)*F))))):=by
 refine Spec.of Tryz.func9 rfl Tryz.ntmps9 rfl ?_
 obtain⟨r1,r2⟩:=L1 (c:=c) (w:=w) (s:=s) (k:=k) (f:=f)
 have cJ:=fun G=>Wi (W:=W) (F:=G) (pn:=pn) (q:=P.fr) (R:=R) (P:=P) hT hc h
 have nH:=fun G=>xx (W:=W) (F:=G) (pn:=pn) (R:=R) hw
 rw[hP]at nH
 generalize bZ c w s k f=D at*
 obtain⟨s2,k2,f2⟩:=D
 dsimp only at*
 rw[hf]at r1
 have uD:k.busy=true:=by unfold aR.busy;rw[hf];rfl
 have kZ:=fun G=>uQ (W:=W) (P:=P) (k:=k) (b:=b) (F:=G)
 have ep:jZ (some f) P.fr=P.fr:=rfl
 simp only[hf,cy,cR,uD,ep]at kZ
 simp only[br,dj,cR,hf,r1,ep]at cJ
 simp only[br,dj,cR,hf,ep]
 repeat first|refine aa ?_ |intro
 refine ag rfl (Spec.pre (nH (aG P.fr f*(Obj P.p 88 [.pointer (P.c 0),.pointer (P.c 1),.pointer (P.c 2),.pointer P.wh,.map (some P.m),.pointer P.fr,.pointer (jZ k.aX P.sw),.slice P.told.1 k.cj.length P.told.2,.int .i64 (k.iM:Int),.bool k.any,.slice P.ended.1 k.ended.length P.ended.2]*(bu (fun x=>gC P.sw x b) k.aX*(aE (eG R.po P k) 3*(dR P.wh k.bp*(fU iq gy P.m k.cm*(ao 5 1 P.told.1 k.cj.length P.told.2 (aA k.cj)*(ao 287 2 P.ended.1 k.ended.length P.ended.2 (mb k.ended)*(bP R.ep s.ep s.gs*(aM R.pl s.pl*(aK R.tb R.pl c.nb s.tb*(aE (bI c R s) 3*F))))))))))))) (ad)) ?_
 intro _
 repeat first|refine aa ?_ |intro
 refine ag rfl (Spec.pre (kZ (NH pn c R*(ao 66 1 R.ws.1 c.n R.ws.2 (c9 c.n fun i=>(R.wk i).p)*(aE (eG R.po P k) 3*(dR P.wh k.bp*(fU iq gy P.m k.cm*(ao 5 1 P.told.1 k.cj.length P.told.2 (aA k.cj)*(ao 287 2 P.ended.1 k.ended.length P.ended.2 (mb k.ended)*(bP R.ep s.ep s.gs*(aM R.pl s.pl*(aK R.tb R.pl c.nb s.tb*(aE (bI c R s) 3*F)))))))))))) (ad)) ?_
 intro _
 repeat first|refine aa ?_ |intro
 refine ag rfl (Spec.pre (cJ (bu (fun x=>gC P.sw x b) k.aX*(ao 66 1 R.ws.1 c.n R.ws.2 (c9 c.n fun i=>(R.wk i).p)*F))) (ad)) ?_
 intro _
 refine aG.jx fun Q=> ?_
 simp only[cr]
 rw[←r2]
 cases hd:f2.done with
 |true=>
  have eD:ft k2 f2={k2 with cj:=f2.fD,iM:=f2.lH,any:=true,frame:=none}:=if_pos hd
  rw[eD]
  have rG:=fun G=>uQ (W:=W) (P:={P with told:=Q.ga}) (k:={k2 with cj:=f2.fD,iM:=f2.lH,any:=true,frame:=none}) (b:=b) (F:=G)
  simp only[ia,cR,ln]at rG
  repeat first|refine aa ?_ |intro
  refine ag rfl (Spec.pre (rG (ao 5 1 Q.ga.1 f2.fD.length Q.ga.2 (aA f2.fD)*(aE (eG R.po P k2) 3*(dR P.wh k2.bp*(fU iq gy P.m k2.cm*(ao 287 2 P.ended.1 k2.ended.length P.ended.2 (mb k2.ended)*(NH pn c R*(bP R.ep s2.ep s2.gs*(aM R.pl s2.pl*(aK R.tb R.pl c.nb s2.tb*(aE (bI c R s2) 3*(ao 66 1 R.ws.1 c.n R.ws.2 (c9 c.n fun i=>(R.wk i).p)*F)))))))))))) (ad)) ?_
  intro _
  repeat first|refine aa ?_ |intro
  refine ae (aw rfl rfl Q.ga rfl (U.sat ?_))
  rw[Cy (P:=P) (P':={P with told:=Q.ga}) (k:=k2) (k':={k2 with cj:=f2.fD,iM:=f2.lH,any:=true,frame:=none}) rfl rfl rfl rfl rfl]
  simp only[ia,cR,ln]
  exact ad
 |false=>
  have eD:ft k2 f2={k2 with frame:=some f2}:=if_neg (by rw[hd];decide)
  rw[eD]
  have rG:=fun G=>uQ (W:=W) (P:=P) (k:={k2 with frame:=some f2}) (b:=b) (F:=G)
  simp only[cy,cR,show jZ (some f2) P.fr=P.fr from rfl]at rG
  repeat first|refine aa ?_ |intro
  refine ag rfl (Spec.pre (rG (ao 5 1 P.told.1 k2.cj.length P.told.2 (aA k2.cj)*(aE (eG R.po P k2) 3*(dR P.wh k2.bp*(fU iq gy P.m k2.cm*(ao 287 2 P.ended.1 k2.ended.length P.ended.2 (mb k2.ended)*(NH pn c R*(bP R.ep s2.ep s2.gs*(aM R.pl s2.pl*(aK R.tb R.pl c.nb s2.tb*(aE (bI c R s2) 3*(ao 66 1 R.ws.1 c.n R.ws.2 (c9 c.n fun i=>(R.wk i).p)*F)))))))))))) (U.at P.p rfl (aG.bW Q (by unfold uc;rw[hd]) (ad)))) ?_
  intro _
  repeat first|refine aa ?_ |intro
  refine ae (aw rfl rfl P.told rfl (U.sat ?_))
  rw[Cy (P:=P) (P':={P with told:=P.told}) (k:=k2) (k':={k2 with frame:=some f2}) rfl rfl rfl rfl rfl]
  simp only[cy,cR,show jZ (some f2) P.fr=P.fr from rfl]
  exact ad
end
section
open Go.RowKit
set_option maxRecDepth 10000
attribute [local irreducible] EK EX ER EN EL ES EG az ba bf
variable {W:World} {F G:SL} {X:Cx} {kk:List KI} {σ:Env} {pn:Option Addr} {c:NC} {R:eJ} {k:aR} {P:dS} {b:Option Addr}
theorem N5 {w:Nat}(hw:w<c.n)(hP:R.wk w=P)(hk:k.busy=false):Spec Tryz.prog 9 [.pointer pn,.int .i64 (w:Int)] W (NH pn c R*(ao 66 1 R.ws.1 c.n R.ws.2 (c9 c.n fun i=>(R.wk i).p)*(Obj P.p 88 (cR P k)*(bu (aG P.fr) k.frame*(bu (fun x=>gC P.sw x b) k.aX*F))))) (fun _:Unit=> .bool true) (fun _=>(NH pn c R*(ao 66 1 R.ws.1 c.n R.ws.2 (c9 c.n fun i=>(R.wk i).p)*(Obj P.p 88 (cR P k)*(bu (aG P.fr) k.frame*(bu (fun x=>gC P.sw x b) k.aX*F)))))):=by
 refine Spec.of Tryz.func9 rfl Tryz.ntmps9 rfl ?_
 have nH:=fun G=>xx (W:=W) (F:=G) (pn:=pn) (R:=R) hw
 rw[hP]at nH
 have kZ:=fun G=>uQ (W:=W) (P:=P) (k:=k) (b:=b) (F:=G)
 rw[hk]at kZ
 repeat first|refine aa ?_ |intro
 refine ag rfl (nH _) ?_
 intro _
 have dc:NN (Obj P.p 88 (cR P k)*F) P.p:=inferInstance
 repeat first|refine aa ?_ |intro
 refine ag rfl (Spec.pre (kZ (NH pn c R*(ao 66 1 R.ws.1 c.n R.ws.2 (c9 c.n fun i=>(R.wk i).p)*F))) (ad)) ?_
 intro _
 repeat first|refine aa ?_ |intro
 exact ae (aw rfl rfl () rfl (U.sat (ad)))
end
section
open Go.RowKit
set_option maxRecDepth 10000
attribute [local irreducible] EK EX ER EN EL ES EG az ba bf
variable {W:World} {F G:SL} {X:Cx} {kk:List KI} {σ:Env} {pn:Option Addr} {c:NC} {R:eJ} {n:bm} {s:aW} {k:aR} {P:dS} {b:Option Addr} {f:aH} {x:gR} {w:Nat}
theorem Spec.sT {Q:Program}{g:FuncId}{vs:List Value}{α β:Type}{P:β→SL}{r:α→Value}{H':α→SL}(h:∀a,Spec Q g vs W (P a*F) r H'):Spec Q g vs W (SL.ex P*F) r H':=fun w hs=>by
 obtain⟨a,hs⟩:=hs.iX
 exact h a w hs
def FO (P:dS)(k:aR)(x:gR)(b:Option Addr):Prop:=∀bk,x.back=some bk→bk.kind=2→bk.done=false→∀i,i<3→(k.ca i).out.isSome=true→b=P.q i
def lE (P:dS)(k:aR)(x:gR):SL:=SL.ex fun b:{b:Option Addr//FO P k x b}=>gC P.sw x b.1
def rb (pp:Nat→Option Addr)(P:dS)(k:aR):SL:=vG pp P k*(bu (aG P.fr) k.frame*bu (lE P k) k.aX)
theorem rb.eq (pp:Nat→Option Addr)(P:dS)(k:aR)(F:SL):rb pp P k*F=br pp P k (bu (aG P.fr) k.frame*(bu (lE P k) k.aX*F)):=by
 unfold rb
 rw[SL.cb,vG.eq,SL.cb]
def gN (R:eJ)(l:List aR)(i:Nat):SL:=rb R.po (R.wk i) (l.getD i ax)
def dh (pn:Option Addr)(c:NC)(n:bm)(R:eJ):SL:=NH pn c R*(ao 66 1 R.ws.1 c.n R.ws.2 (c9 c.n fun i=>(R.wk i).p)*(aE (gN R n.wk) c.n*vD c R n.sh))
def cM (pn:Option Addr)(c:NC)(n:bm):SL:=SL.ex (dh pn c n)
theorem dh.eq (n:bm)(R:eJ)(F:SL):dh pn c n R*F=NH pn c R*(ao 66 1 R.ws.1 c.n R.ws.2 (c9 c.n fun i=>(R.wk i).p)*(aE (gN R n.wk) c.n*dj c R n.sh F)):=by
 unfold dh
 simp only[SL.cb]
 rw[vD.eq]
theorem dh.at (hw:w<c.n)(F:SL):dh pn c n R*F=NH pn c R*(ao 66 1 R.ws.1 c.n R.ws.2 (c9 c.n fun i=>(R.wk i).p)*(br R.po (R.wk w) (n.wk.getD w ax) (bu (aG (R.wk w).fr) (n.wk.getD w ax).frame*(bu (lE (R.wk w) (n.wk.getD w ax)) (n.wk.getD w ax).aX*(aE (df (gN R n.wk) w) c.n*dj c R n.sh F))))):=by
 rw[dh.eq,aE.at c.n hw,SL.cb]
 unfold gN
 rw[rb.eq]
def sj (f:Nat→dS)(w:Nat)(P:dS):Nat→dS:=fun i=>if i=w then P else f i
theorem uy (l:List aR)(w i:Nat)(k:aR)(h:w<l.length):(l.set w k).getD i ax=if i=w then k else l.getD i ax:=by
 simp only[List.getD_eq_getElem?_getD,List.getElem?_set]
 by_cases e:i=w
 ·subst e;simp[h]
 ·rw[if_neg (fun h:w=i=>e h.symm),if_neg e]
theorem dh.put (hl:n.wk.length=c.n)(hw:w<c.n)(P':dS)(k':aR)(s':aW)(hp:P'.p=(R.wk w).p)(F:SL):dh pn c ⟨s',n.wk.set w k'⟩ {R with wk:=sj R.wk w P'}*F=NH pn c R*(ao 66 1 R.ws.1 c.n R.ws.2 (c9 c.n fun i=>(R.wk i).p)*(br R.po P' k' (bu (aG P'.fr) k'.frame*(bu (lE P' k') k'.aX*(aE (df (gN R n.wk) w) c.n*dj c R s' F))))):=by
 rw[dh.at hw]
 have e1:sj R.wk w P' w=P':=if_pos rfl
 have e2:(n.wk.set w k').getD w ax=k':=by rw[uy _ _ _ _ (by omega),if_pos rfl]
 have e3:aE (df (gN {R with wk:=sj R.wk w P'} (n.wk.set w k')) w) c.n=aE (df (gN R n.wk) w) c.n:=aE.congr c.n fun i hi=>by
  unfold df
  by_cases e:i=w
  ·rw[if_pos e,if_pos e]
  ·rw[if_neg e,if_neg e]
   unfold gN
   rw[uy _ _ _ _ (by omega),if_neg e]
   have:sj R.wk w P' i=R.wk i:=if_neg e
   dsimp only
   rw[this]
 have e4:(c9 c.n fun i=>(sj R.wk w P' i).p)=c9 c.n fun i=>(R.wk i).p:=Lg fun i hi=>by
  unfold sj
  split
  ·rename_i e;rw[hp,e]
  ·rfl
 dsimp only
 rw[e1,e2,e3,e4]
 rfl
theorem KA (hl:n.wk.length=c.n)(hw:w<c.n)(hf:(n.wk.getD w ax).frame=some f):de c w n=(⟨(bZ c w n.sh (n.wk.getD w ax) f).1,n.wk.set w (ft (bZ c w n.sh (n.wk.getD w ax) f).2.1 (bZ c w n.sh (n.wk.getD w ax) f).2.2)⟩, !(ft (bZ c w n.sh (n.wk.getD w ax) f).2.1 (bZ c w n.sh (n.wk.getD w ax) f).2.2).busy):=by
 unfold de
 rw[if_neg (by omega)]
 simp only[hf]
 rfl
theorem KB (hl:n.wk.length=c.n)(hw:w<c.n)(hf:(n.wk.getD w ax).frame=none)(hx:(n.wk.getD w ax).aX=none):de c w n=(n,true):=by
 unfold de
 rw[if_neg (by omega)]
 simp only[hf,hx]
theorem LO (k:aR)(d i:Nat)(hd:d<3)(hi:i<3)(a:dC):(k.bK d a).ca i=if i=d then a else k.ca i:=by
 split
 ·rename_i e;subst e;exact uk k a hd
 ·rename_i e;exact vP k a hi hd e
theorem Gz (hT:gE W)(hc:c.Ok)(hl:n.wk.length=c.n)(hw:w<c.n)(hf:(n.wk.getD w ax).frame=some f)(hs:(n.wk.getD w ax).aX=none)(h:vE c w n.sh (n.wk.getD w ax) f):Spec Tryz.prog 9 [.pointer pn,.int .i64 (w:Int)] W (cM pn c n*F) (fun _:Unit=> .bool (de c w n).2) (fun _=>cM pn c (de c w n).1*F):=by
 refine Spec.sT fun R=> ?_
 rw[dh.at hw]
 rw[KA hl hw hf]
 obtain⟨r1,r2⟩:=L1 (c:=c) (w:=w) (s:=n.sh) (k:=n.wk.getD w ax) (f:=f)
 have og:=Wh (W:=W) (pn:=pn) (R:=R) (b:=none) (F:=aE (df (gN R n.wk) w) c.n*F) hT hc hw (P:=R.wk w) rfl hf h
 simp only[hf,hs,ia,cy]at og ⊢
 refine(Spec.pre og (by simp only[br,dj];exact ad)).mono fun z=>⟨(),rfl,?_⟩
 refine U.ex {R with wk:=sj R.wk w {R.wk w with told:=z}} ?_
 rw[dh.put hl hw {R.wk w with told:=z} _ _ rfl]
 have rN:(ft (bZ c w n.sh (n.wk.getD w ax) f).2.1 (bZ c w n.sh (n.wk.getD w ax) f).2.2).aX=none:=by
  unfold ft
  split<;>(dsimp only;rw[r2,hs])
 rw[rN,ia]
 generalize bZ c w n.sh (n.wk.getD w ax) f=D
 obtain⟨s2,k2,f2⟩:=D
 simp only[br,dj]
 exact ad
end
section
open Go.RowKit
set_option maxRecDepth 10000
attribute [local irreducible] EK EX ER EN EL ES EG az ba bf
variable {W:World} {F G:SL} {X:Cx} {kk:List KI} {σ:Env} {pn:Option Addr} {c:NC} {R:eJ} {n:bm} {k:aR} {P:dS} {b:Option Addr} {w:Nat}
attribute [local simp] mM
theorem FT {q:Option Addr}{cap:Nat}{l:List UInt8}[s:Src W F q l.length (aA l)](hn:l.length≤1000000):
  Spec Tryz.prog 23 [.slice q l.length cap] W F (fun g:aP=> .slice g.1 l.length g.2) (fun g=>ao 5 1 g.1 l.length g.2 (aA l)*F):=by
 refine Spec.of Tryz.func23 rfl Tryz.ntmps23 rfl ?_
 repeat first|refine aa ?_ |intro
 refine cg (yv rfl rfl) rfl ?_
 repeat first|refine aa ?_ |intro
 refine mA rfl (fun hp=> ?_) (fun hp=> ?_)
 ·subst hp
  refine A0 (φ:=l.length=0) (fun w hw=>by
   rcases Nat.eq_zero_or_pos l.length with h|h
   ·exact h
   ·exact absurd rfl (s.nn w hw h)) fun h0=> ?_
  obtain rfl:=List.eq_nil_of_length_eq_zero h0
  repeat first|refine aa ?_ |intro
  exact ae (aw rfl rfl ((none,0):aP) rfl (U.sat (U.none (U.refl _))))
 ·repeat first|refine aa ?_ |intro
  rename_i q0 g
  refine ae (aw rfl rfl g ?_ (U.sat (U.row g.1 ?_ ?_ ?_)))
  ·simp
  ·simp
  ·simp
  ·repeat(first|exact U.last|refine U.cons ?_ |refine U.assoc ?_)
def fp (n:bm)(w:Nat)(out:Bool)(b:List UInt8)(tick:Int):bm×Nat:=if(n.wk.getD w ax).busy=true then(n,10)else(⟨n.sh,n.wk.set w {(n.wk.getD w ax)with frame:=some (nD out b tick)}⟩,0)
def dX (n:bm)(w:Nat):List UInt8×Nat×Bool:=if(n.wk.getD w ax).any=true then((n.wk.getD w ax).cj,(n.wk.getD w ax).iM,true)else([],0,false)
abbrev lG (pp:Nat→Option Addr)(P:dS)(k:aR)(F:SL):SL:=aE (eG pp P k) 3*(dR P.wh k.bp*(fU iq gy P.m k.cm*(ao 5 1 P.told.1 k.cj.length P.told.2 (aA k.cj)*(ao 287 2 P.ended.1 k.ended.length P.ended.2 (mb k.ended)*F))))
theorem Hr {P:dS}{k:aR}:Spec Tryz.prog 22 [.pointer P.p] W (Obj P.p 88 (cR P k)*(bu (aG P.fr) k.frame*(bu (lE P k) k.aX*F))) (fun _:Unit=> .bool k.busy) (fun _=>Obj P.p 88 (cR P k)*(bu (aG P.fr) k.frame*(bu (lE P k) k.aX*F))):=by
 cases hx:k.aX with
 |none=>
  have h:=uQ (W:=W) (P:=P) (k:=k) (b:=none) (F:=F)
  rw[hx]at h
  exact h
 |some x=>
  refine Spec.pre (G:=lE P k x*(Obj P.p 88 (cR P k)*(bu (aG P.fr) k.frame*F))) ?_ (by rw[cy];exact ad)
  refine Spec.sT fun b=> ?_
  have h:=uQ (W:=W) (P:=P) (k:=k) (b:=b.1) (F:=F)
  rw[hx,cy]at h
  refine(Spec.pre h (ad)).mono fun _=>⟨(),rfl,?_⟩
  rw[cy]
  refine U.trans (B:=lE P k x*(Obj P.p 88 (cR P k)*(bu (aG P.fr) k.frame*F))) (U.ex b (ad)) (ad)
abbrev kM (pn:Option Addr)(c:NC)(R:eJ)(n:bm)(w:Nat)(k:aR)(F:SL):SL:=NH pn c R*(ao 66 1 R.ws.1 c.n R.ws.2 (c9 c.n fun i=>(R.wk i).p)*(Obj (R.wk w).p 88 (cR (R.wk w) k)*(bu (aG (R.wk w).fr) k.frame*(bu (lE (R.wk w) k) k.aX*(lG R.po (R.wk w) k (aE (df (gN R n.wk) w) c.n*dj c R n.sh F))))))
theorem dh.KR (hw:w<c.n):U (dh pn c n R*F) (kM pn c R n w (n.wk.getD w ax) F)∧U (kM pn c R n w (n.wk.getD w ax) F) (dh pn c n R*F):=by
 rw[dh.at hw]
 simp only[kM,lG,br]
 generalize n.wk.getD w ax=k
 exact⟨ad,ad⟩
theorem Spec.Ew {f:FuncId}{vs:List Value}{α:Type}{r:α→Value}{H':α→SL}(hw:w<c.n)(h:∀R:eJ,Spec Tryz.prog f vs W (kM pn c R n w (n.wk.getD w ax) F) r fun x=>H' x):Spec Tryz.prog f vs W (cM pn c n*F) r H':=Spec.sT fun R=>Spec.pre (h R) (dh.KR hw).1
theorem kM.back (hw:w<c.n):U (kM pn c R n w (n.wk.getD w ax) F) (cM pn c n*F):=U.trans (dh.KR hw).2 (U.ex R (U.refl _))
theorem yi (hw:w<c.n):Spec Tryz.prog 10 [.pointer pn,.int .i64 (w:Int)] W (cM pn c n*F) (fun _:Unit=> .bool (n.wk.getD w ax).busy) (fun _=>cM pn c n*F):=by
 refine Spec.Ew hw fun R=>(?_ :Spec _ _ _ _ _ _ fun _:Unit=>kM pn c R n w (n.wk.getD w ax) F).mono fun _=>⟨(),rfl,kM.back hw⟩
 refine Spec.of Tryz.func10 rfl Tryz.ntmps10 rfl ?_
 have nH:=fun G=>xx (W:=W) (F:=G) (pn:=pn) (R:=R) hw
 have kZ:=fun G=>Hr (W:=W) (P:=R.wk w) (k:=n.wk.getD w ax) (F:=G)
 repeat first|refine aa ?_ |intro
 refine ag rfl (nH _) ?_
 intro _
 repeat first|refine aa ?_ |intro
 refine ag rfl (Spec.pre (kZ (NH pn c R*(ao 66 1 R.ws.1 c.n R.ws.2 (c9 c.n fun i=>(R.wk i).p)*(lG R.po (R.wk w) (n.wk.getD w ax) (aE (df (gN R n.wk) w) c.n*dj c R n.sh F))))) (ad)) ?_
 intro _
 repeat first|refine aa ?_ |intro
 exact ae (aw rfl rfl () rfl (U.sat (ad)))
theorem kM.put (hl:n.wk.length=c.n)(hw:w<c.n)(P':dS)(k':aR)(hp:P'.p=(R.wk w).p):U (NH pn c R*(ao 66 1 R.ws.1 c.n R.ws.2 (c9 c.n fun i=>(R.wk i).p)*(Obj P'.p 88 (cR P' k')*(bu (aG P'.fr) k'.frame*(bu (lE P' k') k'.aX*(lG R.po P' k' (aE (df (gN R n.wk) w) c.n*dj c R n.sh F))))))) (cM pn c ⟨n.sh,n.wk.set w k'⟩*F):=by
 refine U.ex {R with wk:=sj R.wk w P'} ?_
 rw[dh.put hl hw P' k' n.sh hp]
 simp only[br,dj,lG]
 exact ad
theorem Qi {k:aR}(h:¬k.busy=true):k.frame=none∧k.aX=none:=by
 unfold aR.busy at h
 cases hf:k.frame with
 |some f=>rw[hf]at h;exact absurd rfl h
 |none=>
  cases hs:k.aX with
  |some x=>rw[hf,hs]at h;exact absurd rfl h
  |none=>exact⟨rfl,rfl⟩
theorem vi {out:Bool}{q:Option Addr}{l:List UInt8}{cap:Nat}{tick:Int}[s:Src W F q l.length (aA l)](hb:l.length≤1000000)(hl:n.wk.length=c.n)(hw:w<c.n):
  Spec Tryz.prog 8 [.pointer pn,.int .i64 (w:Int),.bool out,.slice q l.length cap,.int .i64 tick] W (cM pn c n*F) (fun _:Unit=> .int .i64 ((fp n w out l tick).2:Int)) (fun _=>cM pn c (fp n w out l tick).1*F):=by
 refine Spec.Ew hw fun R=> ?_
 refine Spec.of Tryz.func8 rfl Tryz.ntmps8 rfl ?_
 have nH:=fun G=>xx (W:=W) (F:=G) (pn:=pn) (R:=R) hw
 have kZ:=fun G=>Hr (W:=W) (P:=R.wk w) (k:=n.wk.getD w ax) (F:=G)
 unfold fp
 repeat first|refine aa ?_ |intro
 refine ag rfl (nH _) ?_
 intro _
 repeat first|refine aa ?_ |intro
 refine ag rfl (Spec.pre (kZ (NH pn c R*(ao 66 1 R.ws.1 c.n R.ws.2 (c9 c.n fun i=>(R.wk i).p)*(lG R.po (R.wk w) (n.wk.getD w ax) (aE (df (gN R n.wk) w) c.n*dj c R n.sh F))))) (ad)) ?_
 intro _
 by_cases uD:(n.wk.getD w ax).busy=true
 ·rw[uD,if_pos rfl]
  repeat first|refine aa ?_ |intro
  exact ae (aw rfl rfl () rfl (U.sat (U.trans (B:=kM pn c R n w (n.wk.getD w ax) F) (ad) (kM.back hw))))
 ·obtain⟨hf,hs⟩:=Qi uD
  rw[if_neg uD,Bool.eq_false_iff.2 uD]
  have TC:=fun P' k' hp=>kM.put (F:=F) (pn:=pn) (R:=R) (n:=n) hl hw P' k' hp
  generalize n.wk.getD w ax=k at*
  simp only[cR,hf,hs,ia,ln]
  repeat first|refine aa ?_ |intro
  refine ag rfl (FT (q:=q) (l:=l) hb) ?_
  intro z
  repeat first|refine aa ?_ |intro
  rename_i y
  refine ae (aw rfl rfl () rfl (U.sat (U.trans ?_ (TC {R.wk w with fr:=y} {k with frame:=some (nD out l tick),aX:=none} rfl))))
  simp only[hs,ia,cy,cR,ln,show jZ (some (nD out l tick)) y=y from rfl]
  refine U.trans (B:=aG y (nD out l tick)*(NH pn c R*(ao 66 1 R.ws.1 c.n R.ws.2 (c9 c.n fun i=>(R.wk i).p)*(Obj (R.wk w).p 88 [.pointer ((R.wk w).c 0),.pointer ((R.wk w).c 1),.pointer ((R.wk w).c 2),.pointer (R.wk w).wh,.map (some (R.wk w).m),.pointer y,.pointer none,.slice (R.wk w).told.1 k.cj.length (R.wk w).told.2,.int .i64 (k.iM:Int),.bool k.any,.slice (R.wk w).ended.1 k.ended.length (R.wk w).ended.2]*(lG R.po (R.wk w) k (aE (df (gN R n.wk) w) c.n*dj c R n.sh F)))))) ?_ ?_
  ·refine aG.bW ⟨z,none,none,none,none,none,none,none,(none,0)⟩ (by rfl) ?_
   simp only[nD,ia]
   refine U.cons ?_
   refine U.none ?_
   exact ad
  ·simp only[lG]
   rw[Cy (P:=R.wk w) (P':={R.wk w with fr:=y}) (k:=k) (k':={k with frame:=some (nD out l tick),aX:=none}) rfl rfl rfl rfl rfl]
   exact ad
theorem vF (hw:w<c.n)(hb:(n.wk.getD w ax).cj.length≤1000000):
  Spec Tryz.prog 12 [.pointer pn,.int .i64 (w:Int)] W (cM pn c n*F) (fun z:aP=> .tuple #[.agg #[.slice z.1 (dX n w).1.length z.2,.int .i64 ((dX n w).2.1:Int)],.bool (dX n w).2.2]) (fun z=>ao 5 1 z.1 (dX n w).1.length z.2 (aA (dX n w).1)*(cM pn c n*F)):=by
 refine Spec.Ew hw fun R=> ?_
 refine Spec.of Tryz.func12 rfl Tryz.ntmps12 rfl ?_
 have nH:=fun G=>xx (W:=W) (F:=G) (pn:=pn) (R:=R) hw
 have iZ:=kM.back (F:=F) (pn:=pn) (R:=R) (n:=n) hw
 unfold dX
 generalize n.wk.getD w ax=k at*
 repeat first|refine aa ?_ |intro
 rename_i y
 refine ag rfl (Spec.pre (nH (Obj y 46 [.slice none 0 0,.int .i64 0]*(Obj (R.wk w).p 88 (cR (R.wk w) k)*(bu (aG (R.wk w).fr) k.frame*(bu (lE (R.wk w) k) k.aX*(lG R.po (R.wk w) k (aE (df (gN R n.wk) w) c.n*dj c R n.sh F))))))) (ad)) ?_
 intro _
 cases ha:k.any with
 |true=>
  rw[if_pos rfl]
  simp only[kM,cR,ha]at iZ ⊢
  repeat first|refine aa ?_ |intro
  refine aL 12 (Obj (R.wk w).p 88 [.pointer ((R.wk w).c 0),.pointer ((R.wk w).c 1),.pointer ((R.wk w).c 2),.pointer (R.wk w).wh,.map (some (R.wk w).m),.pointer (jZ k.frame (R.wk w).fr),.pointer (jZ k.aX (R.wk w).sw),.slice (R.wk w).told.1 k.cj.length (R.wk w).told.2,.int .i64 (k.iM:Int),.bool true,.slice (R.wk w).ended.1 k.ended.length (R.wk w).ended.2]*1) rfl rfl rfl ?_
  repeat(first|refine aq ?_ |refine aY 0 rfl rfl rfl rfl (by decide+kernel) (av) rfl ?_ |refine aY 1 rfl rfl rfl rfl (by decide+kernel) (av) rfl ?_ |refine aY 2 rfl rfl rfl rfl (by decide+kernel) (av) rfl ?_ |refine aY 3 rfl rfl rfl rfl (by decide+kernel) (av) rfl ?_)
  refine aI rfl rfl rfl rfl rfl (FT hb) (fun _=>ad) ?_
  intro z
  repeat(first|refine aq ?_ |refine aY 0 rfl rfl rfl rfl (by decide+kernel) (av) rfl ?_ |refine aY 1 rfl rfl rfl rfl (by decide+kernel) (av) rfl ?_ |refine aY 2 rfl rfl rfl rfl (by decide+kernel) (av) rfl ?_ |refine aY 3 rfl rfl rfl rfl (by decide+kernel) (av) rfl ?_)
  (refine my rfl (di rfl rfl rfl rfl rfl rfl) (by decide+kernel) rfl ?_);repeat(first|refine gu rfl rfl rfl (iy rfl rfl) (by decide+kernel) (by decide+kernel) rfl ?_ |refine gu rfl rfl rfl (ix rfl rfl) (by decide+kernel) (by decide+kernel) rfl ?_ |refine mz rfl rfl (di rfl rfl rfl rfl rfl rfl) (by decide+kernel) (by decide+kernel) rfl ?_ |refine eD ?_)
  repeat(first|refine bQ ?_ |(refine bU ?_;intro)|refine bR ?_ |refine bS ?_ |refine bT ?_ |refine eD ?_)
  repeat first|refine aa ?_ |intro
  exact ae (bq (rs:=[.cell 4 46,.tmp 5]) (v:= .agg #[.slice z.1 k.cj.length z.2,.int .i64 (k.iM:Int)]) (u:= .bool true) (vs:=[]) rfl ⟨⟨_,rfl,bc.agg rfl⟩,rfl,trivial⟩ z rfl (U.sat (U.cons (U.trans (ad) iZ))))
 |false=>
  rw[if_neg (by decide)]
  simp only[kM,cR,ha]at iZ ⊢
  repeat first|refine aa ?_ |intro
  exact ae (bq (rs:=[.cell 4 46,.tmp 5]) (v:= .agg #[.slice none 0 0,.int .i64 0]) (u:= .bool false) (vs:=[]) rfl ⟨⟨_,rfl,bc.agg rfl⟩,rfl,trivial⟩ ((none,0):aP) rfl (U.sat (U.none (U.trans (ad) iZ))))
end
section
open Go.RowKit
def Cu (c:NC)(s:aW)(x:Nat):qJ:=⟨nC (o9 s (x:Int)),c.lo+x%c.np,(bC s (x:Int)).tr,(bC s (x:Int)).sn⟩
def vb (s:aW)(x:Nat):Bool:=decide ((bC s (x:Int)).st=2)
def kn (c:NC)(s:aW)(i:Nat):List qJ:=((List.range i).filter (vb s)).map (Cu c s)
def mJ (c:NC)(s:aW):List qJ:=kn c s (3*c.np)
theorem Qc (c:NC)(s:aW)(i:Nat):kn c s (i+1)=kn c s i++if(bC s (i:Int)).st=2 then [⟨nC (o9 s (i:Int)),c.lo+i%c.np,(bC s (i:Int)).tr,(bC s (i:Int)).sn⟩]else []:=by
 unfold kn
 rw[List.range_succ,List.filter_append,List.map_append]
 congr 1
 by_cases h:(bC s (i:Int)).st=2<;>simp[vb,Cu,h]
theorem Qb (c:NC)(s:aW)(i:Nat):(kn c s i).length≤i:=by
 have:=List.length_filter_le (vb s) (List.range i)
 rw[List.length_range]at this
 unfold kn
 rw[List.length_map];exact this
section
variable {β:Type} {N y:Nat} {P P':Nat→Bool} {B B':Nat→β}
end
end
section
open Go.RowKit
theorem G3 {ps:List (Nat×Nat)}(z y:Nat)(h:y∈fm ps∨y=z):y∈fm (addPart ps z):=by
 unfold addPart
 split
 ·rename_i i hi
  have ck:=K0 hi
  have Ds:=KZ hi
  rw[qt]
  have tt:∀v,v∈ps.set i v:=fun v=>List.mem_iff_getElem.2 ⟨i,by simpa using ck,by simp⟩
  rcases h with h|rfl
  ·obtain⟨x,hx,h1,h2⟩:=qt.1 h
   obtain⟨j,hj,rfl⟩:=List.getElem_of_mem hx
   by_cases e:i=j
   ·subst e
    refine⟨_,tt _,?_,?_⟩
    ·rw[h1,List.getD_eq_getElem?_getD,List.getElem?_eq_getElem hj];rfl
    ·dsimp only
     rw[Nat.testBit_or,List.getD_eq_getElem?_getD,List.getElem?_eq_getElem hj]
     simp[h2]
   ·exact⟨ps[j],List.mem_iff_getElem.2 ⟨j,by simpa using hj,by rw[List.getElem_set_ne e]⟩,h1,h2⟩
  ·refine⟨_,tt _,Ds.symm,?_⟩
   dsimp only
   rw[Nat.testBit_or,Nat.testBit_two_pow_self,Bool.or_true]
 ·rw[qt]
  rcases h with h|rfl
  ·obtain⟨x,hx,h1,h2⟩:=qt.1 h
   exact⟨x,List.mem_append_left _ hx,h1,h2⟩
  ·exact⟨_,List.mem_append_right _ (List.mem_singleton.2 rfl),rfl,Nat.testBit_two_pow_self⟩
theorem Io (n:Nat):∀(l:List Int) (ps:List (Nat×Nat)) (y:Nat),(y∈fm ps∨((y:Int)∈l∧y<n))→y∈fm (l.foldl (lI n) ps)
 |[],ps,y,h=>h.elim id fun h=>absurd h.1 (by simp)
 |z::l,ps,y,h=>by
  rw[List.foldl_cons]
  refine Io n l _ y ?_
  by_cases hy:(y:Int)∈l∧y<n
  ·exact .inr hy
  ·refine .inl ?_
   unfold lI
   rcases h with h|⟨h1,h2⟩
   ·split
    ·exact G3 _ _ (.inl h)
    ·exact h
   ·rcases List.mem_cons.1 h1 with h1|h1
    ·rw[if_pos ⟨by omega,by omega⟩]
     exact G3 _ _ (.inr (by omega))
    ·exact absurd ⟨h1,h2⟩ hy
theorem VP (n:Nat)(l:List Nat)(y:Nat):y∈fm (rh n (l.map fun(x:Nat)=>(x:Int)))↔y∈l∧y<n:=by
 have hm:((y:Int)∈l.map fun(x:Nat)=>(x:Int))↔y∈l:=by
  rw[List.mem_map]
  exact⟨fun⟨a,h1,h2⟩=>by rwa[show y=a by omega],fun h=>⟨y,h,rfl⟩⟩
 constructor
 ·intro h
  obtain⟨h1,h2⟩:=(Hh n _).2 y h
  exact⟨hm.1 h1,h2⟩
 ·rintro ⟨h1,h2⟩
  exact Io n _ [] y (.inr ⟨hm.2 h1,h2⟩)
end
section
open Go.RowKit
variable {m n k w x:Nat} {ws o:List Nat} {s:bL}
inductive NU where
 |idle
 |still
 |fill (s:bL)
 |back (s:bL)
structure NW where
 home:Nat
 l:List Nat
 run:NU
def one (p:Prop)[Decidable p]:Nat:=if p then 1 else 0
def Qx:NW:=⟨0,[],.idle⟩
end
end Go.Proofs.YtakbmjoijcpdmaaGreatDoor
