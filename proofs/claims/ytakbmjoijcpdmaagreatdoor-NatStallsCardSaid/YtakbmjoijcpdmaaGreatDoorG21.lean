/-
  A part of a proof, joined by a program (wip/bundle3.py).
-/
import Derived.SizedLaws
import Derived.Test.YtakbmjoijcpdmaaGreatDoorG2
import Derived.Test.YtakbmjoijcpdmaaGreatDoorG7
import Derived.Test.YtakbmjoijcpdmaaGreatDoorG14
import Derived.Test.YtakbmjoijcpdmaaGreatDoorG15
import Derived.Test.YtakbmjoijcpdmaaGreatDoorG18
import Derived.Test.YtakbmjoijcpdmaaGreatDoorG19
import Derived.Test.YtakbmjoijcpdmaaGreatDoorG20
set_option linter.unusedVariables false
set_option linter.unusedSimpArgs false
namespace Go.Proofs.YtakbmjoijcpdmaaGreatDoor
section
section
variable {o:OF} {G G':Gh} {n n':bm} {s s':aW} {w v z y:Nat} {k k':aR} {f f':aH}
theorem EF (ho:o.Ok)(hn:dM o G n)(hw:w<o.c.n)(hk:n.wk.getD w ax=k)(hf:k.frame=some f):∃G',jF o G' w n∧(G.x=none∨G'.x=G.x):=by
 have hp:=(hn.wk w hw).ph
 rw[hk,hf]at hp
 have hp:gZ o G n.sh w k f:=hp
 cases hp with
 |start h cu=>exact⟨G,WE ho hn hw hk hf h cu,.inr rfl⟩
 |bE h e p hp h1 hm cu=>exact⟨G,WC ho hn hw hk hf h e p hp h1 hm cu,.inr rfl⟩
 |find h e t ht h1 hm cu=>exact⟨G,Wv ho hn hw hk hf h e t ht h1 hm cu,.inr rfl⟩
 |rF h e y hy hi hs hm=>exact⟨G,Ww ho hn hw hk hf h e y hy hi hs hm,.inr rfl⟩
 |use h e y hy hi hs hm=>exact⟨G,WI ho hn hw hk hf h e y hy hi hs hm,.inr rfl⟩
 |renew h e y hy hi hs nG hm=>exact⟨G,WD ho hn hw hk hf h e y hy hi hs nG hm,.inr rfl⟩
 |fill h e x hx h1 hm cu=>
  obtain⟨G',h1,h2⟩:=Wt ho hn hw hk hf h e x hx h1 hm cu
  exact⟨G',h1,.inr h2⟩
 |bH h e hl hv hm cu=>exact⟨G,WB ho hn hw hk hf h e hl hv hm cu,.inr rfl⟩
 |key h e hl hv hi kC DB hm cu=>
  rcases e with e|e
  ·exact⟨G,Wx ho hn hw hk hf h e hl hv hi kC hm cu,.inr rfl⟩
  ·exact⟨G,Wz ho hn hw hk hf h e hl hv hi kC (DB e) hm cu,.inr rfl⟩
 |enter h e z hz hi hm hv hp hx t ht h1 cu=>exact Ws ho hn hw hk hf h e z hz hi hm hv hp hx t ht h1 cu
 |live h e y hy hi hv hx hm cu=>exact⟨G,Wy ho hn hw hk hf h e y hy hi hv hx hm,.inr rfl⟩
 |sf h e z hz hi hm hv hp y hy hx t ht h1 cu=>exact⟨G,WH ho hn hw hk hf h e z hz hi hm hv hp y hy hx t ht h1 cu,.inr rfl⟩
 |fin hd e y hy ha hs hm=>exact⟨G,Wu ho hn hw hk hf e y hy ha hs,.inr rfl⟩
theorem KQ (hn:dM o G n)(hw:w<o.c.n)(hf:(n.wk.getD w ax).frame=none):de o.c w n=(n,true):=by
 unfold de
 rw[if_neg (by rw[hn.wl];omega),hf,(hn.wk w hw).aX]
theorem KP (ho:o.Ok)(hn:dM o G n)(hw:w<o.c.n):∃G',dM o G' (de o.c w n).1∧(G.x=none∨G'.x=G.x):=by
 cases hf:(n.wk.getD w ax).frame with
 |none=>
  rw[KQ hn hw hf]
  exact⟨G,hn,.inr rfl⟩
 |some f=>
  obtain⟨G',h1,h2⟩:=EF ho hn hw rfl hf
  exact⟨G',h1.1,h2⟩
theorem EE (ho:o.Ok)(hw:w<o.c.n):∀(m:Nat) (n:bm) (G:Gh) (f:aH),dM o G n→(n.wk.getD w ax).frame=some f→Mo o n.sh f≤m→
  ∃j n' G',j≤m+1∧ig o.c w j n n' true∧(∀i,i<j→∃f,((kG o.c w i n).wk.getD w ax).frame=some f)∧dM o G' n'∧((n'.wk.getD w ax).frame=none∧(n'.wk.getD w ax).any=true)∧(G.x=none∨G'.x=G.x)
 |m,n,G,f,hn,hf,hm=>by
  obtain⟨G',h1,h2⟩:=EF ho hn hw rfl hf
  rcases h1 with ⟨h1,⟨h3,g,g',h4,h5,h6⟩|⟨h3,h4,h5⟩⟩
  ·rw[hf]at h4
   cases h4
   obtain⟨j,n',G2,a1,a2,a3,a4,a5,a6⟩:=EE ho hw (m-1) _ G' g' h1 h5 (by omega)
   refine⟨j+1,n',G2,by omega,ig.step (by rw[←h3]) a2,fun i hi=> ?_,a4,a5,?_⟩
   ·cases i with
    |zero=>exact⟨f,hf⟩
    |succ i=>exact a3 i (by omega)
   ·rcases h2 with h2|h2
    ·exact .inl h2
    ·rw[h2]at a6;exact a6
  ·exact⟨1,_,G',by omega,ig.one (by rw[←h3]),fun i hi=>⟨f,by rw[show i=0 by omega];exact hf⟩,h1,⟨h4,h5⟩,h2⟩
 termination_by m n G f hn hf hm=>m
 decreasing_by omega
theorem Gx:Mo o s f≤39:=by
 by_cases h0:f.next=0
 ·simp[Mo,h0]
 by_cases h1:f.next=1
 ·simp[Mo,h1];omega
 by_cases h2:f.next=2
 ·simp[Mo,h2]
  split
  ·rename_i t _;have:=Fx o.a s.tb t;omega
  ·omega
 by_cases h6:f.next=6
 ·have:=Gu (o:=o) (s:=s) h6;omega
 by_cases qe:f.next=12
 ·have:=Gv (o:=o) (s:=s) qe;omega
 simp only[Mo,h0,h1,h2,h6,qe,if_false]
 repeat' split
 all_goals omega
def ze:Gh:=⟨none,0,fun _=>none,fun _=>false⟩
theorem WA (ho:o.Ok):dM o ze (dI o.c):=by
 have c3:=ho.np
 have il:o.kd<3:=gH _
 have wX:mC o.c.np (dy o.c.np):=mC.new (by omega) (by omega)
 have c5:∀z,z<o.c.np→fk (dy o.c.np) z=true:=fun z=>(Ey (by omega)).1
 have SU:∀m,lR ze.fd m=0:=fun m=>by
  induction m with
  |zero=>rfl
  |succ m ih=>show lR ze.fd m+0=0;omega
 refine⟨⟨⟨by simp[dI],xJ _ _ _,fun j _=>xJ _ _ _⟩,by simp[dI],fun y hy=>(by cases hy),fun y _=>xJ _ _ _,?_,fun z hz=> ?_,fun i hi _=>Ak _ hi,xJ _ _ _,fun v=>xJ _ _ _,?_,fun z v e=>(by cases e)⟩,by simp[dI],fun v hv=> ?_⟩
 ·rw[Ak _ il];exact wX
 ·rw[Ak _ il];exact⟨fun _=>rfl,fun _=>c5 z hz⟩
 ·rw[Ak _ il,SU,List.filter_eq_self.2 fun z hz=>c5 z (by have:=List.mem_range.1 hz;omega),List.length_range]
  omega
 ·have hl:∀i,((dI o.c).wk.getD v ax).ca i=pV v:=fun i=>Qo o.c hv
  refine⟨?_,fun i _=> ?_,fun i _ _=> ?_,?_,fun z hz=> ?_,?_,fun _=>⟨?_,fun z e=>(by cases e)⟩,fun z hz=> ?_,fun z e=>(by cases e),fun z e=>(by cases e),?_⟩
  ·rw[ve _ hv];rfl
  ·rw[hl];rfl
  ·rw[hl];rfl
  ·rw[hl];exact List.nodup_nil
  ·rw[hl]at hz;cases hz
  ·rw[hl];exact Nat.zero_le _
  ·rw[hl];rfl
  ·rw[hl]at hz;cases hz
  ·rw[ve _ hv];exact .inl ⟨rfl,rfl⟩
theorem KL (hn:dM o G n)(hw:w<o.c.n)(hf:(n.wk.getD w ax).frame=none)(cu:G.fd w=false):dM o G ⟨n.sh,n.wk.set w (oN (n.wk.getD w ax) true o.b (o.tk w:Int))⟩:=by
 have hW:=hn.wk w hw
 refine hn.gY hw Ext.refl hn.sh ⟨hW.aX,hW.out,hW.cn,hW.nj,hW.own,hW.len,hW.me,hW.j2,fun z hz=> ?_,hW.fz,gZ.start rfl cu⟩
 exact absurd hz ((hW.me cu).2 z)
theorem ui (hv:v≠w):(n.wk.set w k).getD v ax=n.wk.getD v ax:=by
 rw[List.getD_eq_getElem?_getD,List.getElem?_set,if_neg (fun e'=>hv e'.symm),←List.getD_eq_getElem?_getD]
theorem CF {c:NC}(hv:v≠w):(de c w n).1.wk.getD v ax=n.wk.getD v ax:=by
 unfold de
 repeat' split
 all_goals first|rfl|exact ui hv
theorem Fb {c:NC}(hv:v≠w):∀(m:Nat) (n:bm),(kG c w m n).wk.getD v ax=n.wk.getD v ax
 |0,_=>rfl
 |m+1,n=>by
  show(kG c w m (de c w n).1).wk.getD v ax=_
  rw[Fb hv m,CF hv]
theorem tC (hn:dM o G n)(hw:w<o.c.n)(hf:(n.wk.getD w ax).frame=none)(ha:(n.wk.getD w ax).any=true):(n.wk.getD w ax).iM=0∧∃y,G.x=some y∧(n.wk.getD w ax).cj=o.goes y∧pQ (o.tk w) (aJ.of (n.sh.pl.getD (2*y) 0)):=by
 have hp:=(hn.wk w hw).ph
 rw[hf]at hp
 rcases hp with ⟨_,h⟩|⟨_,h1,h2⟩
 ·rw[ha]at h;cases h
 ·exact⟨h1,h2⟩
def lA (o:OF)(n:bm)(w:Nat):Prop:=(n.wk.getD w ax).frame=none→(n.wk.getD w ax).any=true
theorem G1 (ho:o.Ok)(hn:dM o G n)(hw:w<o.c.n)(ha:lA o n v):lA o (de o.c w n).1 v:=by
 by_cases e:v=w
 ·subst e
  cases hf:(n.wk.getD v ax).frame with
  |none=>rw[KQ hn hw hf];exact ha
  |some f=>
   obtain⟨G',⟨_,h2⟩,_⟩:=EF ho hn hw rfl hf
   rcases h2 with ⟨_,_,f',_,h5,_⟩|⟨_,_,h5⟩
   ·intro q;rw[h5]at q;cases q
   ·exact fun _=>h5
 ·unfold lA
  rw[CF e];exact ha
end
end
section
open Go.RowKit
set_option maxRecDepth 10000
attribute [local irreducible] EK EX ER EN EL ES EG az ba bf
variable {W:World} {F G:SL} {X:Cx} {kk:List KI} {σ:Env} {pn:Option Addr} {c:NC} {R:eJ} {n:bm} {w id:Nat}
attribute [local simp] pe
def E7 (id:Nat):Option gR→Bool
 | .none=>false
 | .some x=>decide (x.dying=(id:Int))||decide (id∈x.dr)
def qw (n:bm)(w id:Nat):Bool:=decide (id∈(n.sh.gs.getD w []).map (·.1))||E7 id (n.wk.getD w ax).aX
theorem Ga {p:Option Addr}{ws:List Nat}{gs:List (List (Nat×Nat))}(hw:w<gs.length)(hg:gs.length≤64)(L:List Nat)(hL:L=(gs.getD w []).map (·.1))(hl:L.length≤1000000):Spec Tryz.prog 125 [.pointer p,.int .i64 (w:Int)] W (bP p ws gs*F) (fun q:aP=> .slice q.1 L.length q.2) (fun q=>ao 43 1 q.1 L.length q.2 (bB .u64 L)*(bP p ws gs*F)):=by
 subst hL
 simp only[List.length_map]at hl ⊢
 exact OI p hw hg hl
theorem Pj (hc:c.Ok)(hw:w<c.n)(hid:id<1000000)(hg:n.sh.gs.length=c.n)(hl:(n.sh.gs.getD w []).length≤1000000)(iD:∀x,(n.wk.getD w ax).aX=some x→x.dr.length≤1000000):Spec Tryz.prog 69 [.pointer pn,.int .i64 (w:Int),.int .i64 (id:Int)] W (cM pn c n*F) (fun _:Unit=> .bool (qw n w id)) (fun _=>cM pn c n*F):=by
 refine Spec.sT fun R=> ?_
 refine Spec.of Tryz.func69 rfl Tryz.ntmps69 rfl ?_
 have hn:=hc.n
 have iZ:U (dh pn c n R*F) (cM pn c n*F):=U.ex R (U.refl _)
 rw[dh.at hw]at iZ ⊢
 unfold qw
 generalize n.wk.getD w ax=k at*
 have hL:((n.sh.gs.getD w []).map (·.1)).length=(n.sh.gs.getD w []).length:=List.length_map _
 generalize II:(n.sh.gs.getD w []).map (·.1)=L at*
 simp only[dj]at iZ ⊢
 cases hx:k.aX with
 |none=>
  rw[hx]at iZ
  repeat first|refine aa ?_ |intro
  refine ag rfl (Spec.aV R.ep (Ga (by omega) (by omega) L II.symm (by omega))) ?_
  intro q
  repeat first|refine aa ?_ |intro
  refine ag rfl (HI q.1 q.2 L id (by omega)) ?_
  intro _
  generalize decide (id∈L)=r
  cases r with
  |true=>
   repeat first|refine aa ?_ |intro
   exact ae (aw rfl rfl () rfl (U.sat (U.trans (ad) iZ)))
  |false=>
   repeat first|refine aa ?_ |intro
   rw[hx]
   repeat first|refine aa ?_ |intro
   exact ae (aw rfl rfl () rfl (U.sat (U.trans (ad) iZ)))
 |some x=>
  have iD:=iD x hx
  refine jE (G:=lE (R.wk w) k x*(NH pn c R*(ao 66 1 R.ws.1 c.n R.ws.2 (c9 c.n fun i=>(R.wk i).p)*(Obj (R.wk w).p 88 (cR (R.wk w) k)*(lG R.po (R.wk w) k (bu (aG (R.wk w).fr) k.frame*(aE (df (gN R n.wk) w) c.n*(bP R.ep n.sh.ep n.sh.gs*(aM R.pl n.sh.pl*(aK R.tb R.pl c.nb n.sh.tb*(aE (bI c R n.sh) 3*F))))))))))) (by rw[cy];simp only[br,lG];exact ad) ?_
  refine nT fun b=> ?_
  rw[hx,cy]at iZ
  have qg:U (gC (R.wk w).sw x b.1*(NH pn c R*(ao 66 1 R.ws.1 c.n R.ws.2 (c9 c.n fun i=>(R.wk i).p)*(Obj (R.wk w).p 88 (cR (R.wk w) k)*(lG R.po (R.wk w) k (bu (aG (R.wk w).fr) k.frame*(aE (df (gN R n.wk) w) c.n*(bP R.ep n.sh.ep n.sh.gs*(aM R.pl n.sh.pl*(aK R.tb R.pl c.nb n.sh.tb*(aE (bI c R n.sh) 3*F))))))))))) (cM pn c n*F):=
   U.trans (U.ex (P:=fun b:{b:Option Addr//FO (R.wk w) k x b}=>gC (R.wk w).sw x b.1) b (U.refl _)) (U.trans (show U (lE (R.wk w) k x*_) _ from by simp only[br,lG];exact ad) iZ)
  refine gC.open fun Q=> ?_
  simp only[yD,lG]
  refine A0 (φ:=(R.wk w).sw≠none) (fun v hv=>(Obj.root _ _ _).nn _ v _ hv) fun zC=> ?_
  repeat first|refine aa ?_ |intro
  refine ag rfl (Spec.aV R.ep (Ga (by omega) (by omega) L II.symm (by omega))) ?_
  intro q
  repeat first|refine aa ?_ |intro
  refine ag rfl (HI q.1 q.2 L id (by omega)) ?_
  intro _
  generalize decide (id∈L)=r
  cases r with
  |true=>
   repeat first|refine aa ?_ |intro
   exact ae (aw rfl rfl () rfl (U.sat (U.trans (gC.bW Q (by rfl) (ad)) qg)))
  |false=>
   repeat first|refine aa ?_ |intro
   rw[hx,show jZ (some x) (R.wk w).sw=(R.wk w).sw from rfl,show(!decide ((R.wk w).sw=none))=true by rw[decide_eq_false zC];rfl]
   by_cases hd:x.dying=(id:Int)
   ·repeat first|refine aa ?_ |intro
    exact ae (aw rfl rfl () (by rw[show E7 id (some x)=true by show(decide (x.dying=(id:Int))||_)=_;rw[decide_eq_true hd,Bool.true_or]];rfl) (U.sat (U.trans (gC.bW Q (by rfl) (ad)) qg)))
   ·repeat first|refine aa ?_ |intro
    refine ag rfl (vS Q.dr.1 Q.dr.2 x.dr id iD) ?_
    intro _
    have er:E7 id (some x)=decide (id∈x.dr):=by show(decide (x.dying=(id:Int))||_)=_;rw[decide_eq_false hd,Bool.false_or]
    rw[er]
    generalize decide (id∈x.dr)=r
    repeat first|refine aa ?_ |intro
    exact ae (aw rfl rfl () (by cases r<;>rfl) (U.sat (U.trans (gC.bW Q (by rfl) (ad)) qg)))
end
section
open Go.RowKit
set_option maxRecDepth 10000
attribute [local irreducible] EK EX ER EN EL ES EG az ba bf
variable {W:World} {F G:SL} {X:Cx} {kk:List KI} {σ:Env} {pn:Option Addr} {c:NC} {R:eJ} {n:bm} {w id kd x:Nat}
attribute [local simp] pe EW CC
def zX:Option bL→List Nat
 | .none=>[]
 | .some o=>mc o.parts
def mY (n:bm)(kd x w:Nat):Bool:=decide (x∈((n.wk.getD w ax).ca kd).l)||decide (x∈zX ((n.wk.getD w ax).ca kd).out)
def lP (c:NC)(s:aW)(kd x:Nat):List (Int×Int):=if x∈gh (s.po kd) ((c.np+31)/32*32)then [(1, -1)]else []
def fO (n:bm)(kd x:Nat):Nat→List (Int×Int)
 |0=>[]
 |w+1=>fO n kd x w++if mY n kd x w=true then [(2,(w:Int))]else []
def kq (s:aW)(id:Nat):List (Int×Int):=if(bC s (id:Int)).st=1∨(bC s (id:Int)).st=2 then [(3, -1)]else []
def iV (n:bm)(id:Nat):Nat→List (Int×Int)
 |0=>[]
 |w+1=>iV n id w++if qw n w id=true then [(4,(w:Int))]else []
def pY (c:NC)(n:bm)(kd x:Nat):List (Int×Int):=lP c n.sh kd x++fO n kd x c.n++kq n.sh (kd*c.np+x)++iV n (kd*c.np+x) c.n
theorem HD (n:bm)(kd x:Nat):∀w,(fO n kd x w).length≤w
 |0=>Nat.le_refl _
 |w+1=>by
  have:=HD n kd x w
  unfold fO
  rw[List.length_append]
  split<;>simp<;>omega
theorem HF (n:bm)(id:Nat):∀w,(iV n id w).length≤w
 |0=>Nat.le_refl _
 |w+1=>by
  have:=HF n id w
  unfold iV
  rw[List.length_append]
  split<;>simp<;>omega
structure vk (c:NC)(n:bm):Prop where
 gs:n.sh.gs.length=c.n
 gl:∀w,w<c.n→(n.sh.gs.getD w []).length≤1000000
 cl:∀w,w<c.n→∀x,(n.wk.getD w ax).aX=some x→x.dr.length≤1000000
 po:∀i,i<3→hJ ((c.np+31)/32) (n.sh.po i)
 ca:∀w,w<c.n→∀i,i<3→((n.wk.getD w ax).ca i).l.length≤100000
 out:∀w,w<c.n→∀i,i<3→∀o,((n.wk.getD w ax).ca i).out=some o→o.parts.length≤40∧∀y∈o.parts,y.1<1000000∧y.2<18446744073709551616
 pl:cK (3*c.np) n.sh.pl
set_option maxHeartbeats 4000000 in
theorem N1 (hc:c.Ok)(h:vk c n)(hk:kd≤2)(hx:x<c.np):Spec Tryz.prog 30 [.pointer pn,.int .i64 (oA (kd:Int)),.int .i64 ((c.lo:Int)+x)] W (cM pn c n*F) (fun z:aP=> .slice z.1 (pY c n kd x).length z.2)
  (fun z=>ao 109 2 z.1 (pY c n kd x).length z.2 (mO (pY c n kd x))*(cM pn c n*F)):=by
 refine Spec.sT fun R=> ?_
 refine Spec.of Tryz.func30 rfl Tryz.ntmps30 rfl ?_
 have hn:=hc.n
 have c3:1≤c.np∧c.np≤1024:=by
  obtain⟨_,_,h3,_,_⟩:=hc
  unfold NC.np
  omega
 haveI:Pos c.np:=⟨c3.1⟩
 have hlo:(c.lo:Int)≤65535:=by
  obtain⟨_,_,h3,_,_⟩:=hc
  omega
 have jb:=WT hc (kd:=kd) (x:=x) hk hx
 obtain⟨hq,hr⟩:=T8 (kd:=kd) hx
 have iZ:U (dh pn c n R*F) (cM pn c n*F):=U.ex R (U.refl _)
 have il:kd<3:=by omega
 have S0:kd*c.np+x<3*c.np:=by
  have:kd*c.np≤2*c.np:=Nat.mul_le_mul_right _ hk
  omega
 have ID:pY c n kd x=lP c n.sh kd x++fO n kd x c.n++kq n.sh (kd*c.np+x)++iV n (kd*c.np+x) c.n:=rfl
 have S1:kd*c.np+x<3072:=by omega
 generalize adP:kd*c.np+x=id at jb hq hr S1 S0 ID
 rw[ID]
 rw[dh.eq]at iZ ⊢
 refine FX (U.sat (U.none (e:=109) (sz:=2) (U.refl _))) ?_
 repeat first|refine aa ?_ |intro
 refine ag rfl (GO c.cfg hc.fit _ _ (by unfold lC;omega)) ?_
 intro _
 rw[jb]
 repeat first|refine aa ?_ |intro
 refine lB rfl (by kernel_rfl) ?_
 repeat(refine cV ?_)
 rw[hq,hr]
 simp only[dj]
 haveI A1:sG (Es c R) (0+8+kd*1) (.pointer (R.po kd)) (kd<3):=⟨fun h=>by
  obtain rfl|rfl|rfl:kd=0∨kd=1∨kd=2:=by omega
  all_goals rfl⟩
 repeat first|refine aa ?_ |intro
 have oo:=h.po kd il
 have IF:∀H:SL,aE (bI c R n.sh) 3*H=bD (R.po kd) c.np (n.sh.po kd)*(aE (df (bI c R n.sh) kd) 3*H):=fun H=>by
  rw[aE.at 3 il,SL.cb];rfl
 rw[IF]
 refine ag rfl (Spec.aV (R.po kd) (OG oo)) ?_
 intro fr
 repeat first|refine aa ?_ |intro
 have rI:=Ir (n.sh.po kd) ((c.np+31)/32*32)
 refine ag rfl (vS fr.1 fr.2 _ x (by omega)) ?_
 intro _
 repeat first|refine aa ?_ |intro
 have v8:lP c n.sh kd x=if x∈gh (n.sh.po kd) ((c.np+31)/32*32)then [(1, -1)]else []:=rfl
 have Ss:∀H:SL,bD (R.po kd) c.np (n.sh.po kd)*(aE (df (bI c R n.sh) kd) 3*H)=aE (bI c R n.sh) 3*H:=fun H=>(IF H).symm
 have hX:U (bD (R.po kd) c.np (n.sh.po kd)*(aE (df (bI c R n.sh) kd) 3*(NH pn c R*(ao 66 1 R.ws.1 c.n R.ws.2 (c9 c.n fun i=>(R.wk i).p)*(aE (gN R n.wk) c.n*(bP R.ep n.sh.ep n.sh.gs*(aM R.pl n.sh.pl*(aK R.tb R.pl c.nb n.sh.tb*F)))))))) (dh pn c n R*F):=by
  rw[Ss,dh.eq]
  simp only[dj]
  exact ad
 refine kN (γ:=aP) (fun _=>True) (fun z=>[(0,.pointer pn),(7,.int .i64 (id:Int)),(8,.int .i64 (kd:Int)),(9,.int .i64 (x:Int)),(10,.slice z.1 (lP c n.sh kd x).length z.2)]) (fun z=>ao 109 2 z.1 (lP c n.sh kd x).length z.2 (mO (lP c n.sh kd x))*(dh pn c n R*F)) ?_ ?_
 ·by_cases hf:x∈gh (n.sh.po kd) ((c.np+31)/32*32)
  ·rw[if_pos hf]at v8
   rw[v8,decide_eq_true hf]
   repeat first|refine aa ?_ |intro
   rename_i z
   simp only[List.nil_append,Nat.zero_add]
   exact ei z trivial ⟨rfl,rfl,rfl,rfl,rfl,trivial⟩ (U.sat (show U _ (ao 109 2 z.1 1 z.2 [.int .i64 1,.int .i64 (-1)]*_)from U.cons (U.trans (ad) hX)))
  ·rw[if_neg hf]at v8
   rw[v8,decide_eq_false hf]
   repeat first|refine aa ?_ |intro
   exact ei (none,0) trivial ⟨rfl,rfl,rfl,rfl,rfl,trivial⟩ (U.sat (show U _ (ao 109 2 none 0 0 []*_)from U.cons (U.trans (ad) hX)))
 intro z0 _
 have e1n:(lP c n.sh kd x).length≤1:=by rw[v8];split<;>simp
 generalize lP c n.sh kd x=C1 at*
 rw[dh.eq]
 simp only[dj]
 repeat first|refine aa ?_ |intro
 have To:=hn.2
 have IC:=fun w=>HD n kd x w
 have wb:∀w,fO n kd x (w+1)=fO n kd x w++if mY n kd x w=true then [(2,(w:Int))]else []:=fun w=>rfl
 refine yl (γ:=aP) (fun _=>True) (fun z=>[(0,.pointer pn),(7,.int .i64 (id:Int)),(10,.slice z.1 (C1++fO n kd x c.n).length z.2)]) (fun z=>ao 109 2 z.1 (C1++fO n kd x c.n).length z.2 (mO (C1++fO n kd x c.n))*(dh pn c n R*F)) ?_ ?_
 ·refine ff (γ:=Nat×aP) (fun g=>g.1≤c.n) (fun g=>[(0,.pointer pn),(7,.int .i64 (id:Int)),(8,.int .i64 (kd:Int)),(9,.int .i64 (x:Int)),(10,.slice g.2.1 (C1++fO n kd x g.1).length g.2.2),(55,.slice R.ws.1 c.n R.ws.2),(56,.int .i64 (c.n:Int)),(57,.int .i64 (g.1:Int))])
   (fun g=>ao 109 2 g.2.1 (C1++fO n kd x g.1).length g.2.2 (mO (C1++fO n kd x g.1))*(dh pn c n R*F)) (fun g=>c.n-g.1) (0,z0) (Nat.zero_le _) ⟨rfl,rfl,rfl,rfl,by dsimp only[fO];rw[List.append_nil];rfl,rfl,rfl,rfl,trivial⟩ (U.sat (by dsimp only[fO];rw[List.append_nil,dh.eq];simp only[dj];exact ad)) ?_
  intro ⟨w,z⟩ h1;dsimp only at h1 ⊢
  have qn:=IC w
  by_cases hw:w<c.n
  ·have wb:=wb w
   have s9:mY n kd x w=(decide (x∈((n.wk.getD w ax).ca kd).l)||decide (x∈zX ((n.wk.getD w ax).ca kd).out)):=rfl
   have j8:=h.ca w hw kd il
   have Tw:=h.out w hw kd il
   have qg:U (NH pn c R*(ao 66 1 R.ws.1 c.n R.ws.2 (c9 c.n fun i=>(R.wk i).p)*(br R.po (R.wk w) (n.wk.getD w ax) (bu (aG (R.wk w).fr) (n.wk.getD w ax).frame*(bu (lE (R.wk w) (n.wk.getD w ax)) (n.wk.getD w ax).aX*(aE (df (gN R n.wk) w) c.n*dj c R n.sh F)))))) (dh pn c n R*F):=by rw[dh.at hw];exact U.refl _
   rw[dh.at hw]
   generalize n.wk.getD w ax=k at*
   have Sr:∀H:SL,aE (eG R.po (R.wk w) k) 3*H=bj ((R.wk w).c kd) (R.po kd) (k.ca kd).h (k.ca kd).l (jZ (k.ca kd).out ((R.wk w).q kd))*(bu (bn ((R.wk w).q kd)) (k.ca kd).out*(aE (df (eG R.po (R.wk w) k) kd) 3*H)):=fun H=>by
    rw[aE.at 3 il,SL.cb];unfold eG;rw[SL.cb]
   simp only[dj,br,Sr]at qg ⊢
   haveI A2:sG (cR (R.wk w) k) (0+0+kd*1) (.pointer ((R.wk w).c kd)) (kd<3):=⟨fun h=>by
    obtain rfl|rfl|rfl:kd=0∨kd=1∨kd=2:=by omega
    all_goals rfl⟩
   have mR:C1++fO n kd x (w+1)=(C1++fO n kd x w)++if mY n kd x w=true then [(2,(w:Int))]else []:=by rw[wb,List.append_assoc]
   have Sq:(C1++fO n kd x w).length≤w+1:=by rw[List.length_append];omega
   generalize C1++fO n kd x w=CL at*
   repeat first|refine aa ?_ |intro
   refine ag rfl (Spec.aV ((R.wk w).c kd) (NO j8)) ?_
   intro al
   repeat first|refine aa ?_ |intro
   refine ag rfl (vS al.1 al.2 _ x (by omega)) ?_
   intro _
   by_cases ha:x∈(k.ca kd).l
   ·have hh:mY n kd x w=true:=by rw[s9,decide_eq_true ha];rfl
    rw[decide_eq_true ha]
    repeat first|refine aa ?_ |intro
    rename_i z2
    refine cT (w+1,z2) (by dsimp only;omega) (by dsimp only;omega) ?_ (U.sat ?_)
    ·dsimp only
     rw[mR,if_pos hh]
     exact⟨rfl,rfl,rfl,rfl,by rw[List.length_append];rfl,rfl,rfl,rfl,trivial⟩
    ·dsimp only
     rw[mR,if_pos hh,yL,List.length_append]
     refine U.cons ?_
     exact ad
   ·rw[decide_eq_false ha,Bool.false_or]at s9
    rw[decide_eq_false ha]
    cases ho:(k.ca kd).out with
    |none=>
     have hh:¬mY n kd x w=true:=by rw[s9,ho];simp[zX]
     rw[ho]at qg
     repeat first|refine aa ?_ |intro
     refine ag rfl (Spec.aV ((R.wk w).c kd) OO) ?_
     intro _
     repeat first|refine aa ?_ |intro
     refine ag rfl (Qw x) ?_
     intro _
     repeat first|refine aa ?_ |intro
     refine cT (w+1,z) (by dsimp only;omega) (by dsimp only;omega) ?_ (U.sat ?_)
     ·dsimp only
      rw[mR,if_neg hh,List.append_nil]
      exact⟨rfl,rfl,rfl,rfl,rfl,rfl,rfl,rfl,trivial⟩
     ·dsimp only
      rw[mR,if_neg hh,List.append_nil]
      refine U.cons ?_
      rw[show jZ (none:Option bL) ((R.wk w).q kd)=none from rfl]
      exact ad
    |some o=>
     obtain⟨o1,o2⟩:=Tw o ho
     rw[ho]at qg s9
     repeat first|refine aa ?_ |intro
     rw[cy]at qg ⊢
     rw[show jZ (some o) ((R.wk w).q kd)=(R.wk w).q kd from rfl]at qg ⊢
     refine ag rfl (Spec.fE ((R.wk w).c kd) ((R.wk w).q kd) (OP (by omega) o2)) ?_
     intro lv
     repeat first|refine aa ?_ |intro
     refine ag rfl (vS lv.1 lv.2 _ x (Nat.le_trans (UW o1) (by decide))) ?_
     intro _
     rw[show zX (some o)=mc o.parts from rfl]at s9
     by_cases hb:x∈mc o.parts
     ·have hh:mY n kd x w=true:=by rw[s9,decide_eq_true hb]
      rw[decide_eq_true hb]
      repeat first|refine aa ?_ |intro
      rename_i z2
      refine cT (w+1,z2) (by dsimp only;omega) (by dsimp only;omega) ?_ (U.sat ?_)
      ·dsimp only
       rw[mR,if_pos hh]
       exact⟨rfl,rfl,rfl,rfl,by rw[List.length_append];rfl,rfl,rfl,rfl,trivial⟩
      ·dsimp only
       rw[mR,if_pos hh,yL,List.length_append]
       refine U.cons ?_
       exact ad
     ·have hh:¬mY n kd x w=true:=by rw[s9,decide_eq_false hb];decide
      rw[decide_eq_false hb]
      repeat first|refine aa ?_ |intro
      refine cT (w+1,z) (by dsimp only;omega) (by dsimp only;omega) ?_ (U.sat ?_)
      ·dsimp only
       rw[mR,if_neg hh,List.append_nil]
       exact⟨rfl,rfl,rfl,rfl,rfl,rfl,rfl,rfl,trivial⟩
      ·dsimp only
       rw[mR,if_neg hh,List.append_nil]
       refine U.cons ?_
       exact ad
  ·have e:w=c.n:=by omega
   subst e
   repeat first|refine aa ?_ |intro
   exact ei z trivial ⟨rfl,rfl,rfl,trivial⟩ (U.sat (ad))
 intro z1 _
 have e2n:(C1++fO n kd x c.n).length≤65:=by
  have:=IC c.n
  rw[List.length_append];omega
 have wa:kq n.sh id=if(bC n.sh (id:Int)).st=1∨(bC n.sh (id:Int)).st=2 then [(3, -1)]else []:=rfl
 generalize C1++fO n kd x c.n=C2 at*
 rw[dh.eq]
 simp only[dj]
 repeat first|refine aa ?_ |intro
 refine ag rfl (Spec.aV R.pl (tB (s:=n.sh) hc h.pl (by omega) (by omega))) ?_
 intro _
 have IJ:U (aM R.pl n.sh.pl*(NH pn c R*(ao 66 1 R.ws.1 c.n R.ws.2 (c9 c.n fun i=>(R.wk i).p)*(aE (gN R n.wk) c.n*(bP R.ep n.sh.ep n.sh.gs*(aK R.tb R.pl c.nb n.sh.tb*(aE (bI c R n.sh) 3*F))))))) (dh pn c n R*F):=by
  rw[dh.eq]
  simp only[dj]
  exact ad
 generalize bC n.sh (id:Int)=v at*
 have hC4:iV n id 0=[]:=rfl
 iterate 3 refine uA ?_
 refine qQ ?_
 refine kN (γ:=Unit) (fun _=>True) (fun _=>[(0,.pointer pn),(7,.int .i64 (id:Int)),(10,.slice z1.1 C2.length z1.2),(96,.bool (decide (v.st=1∨v.st=2)))]) (fun _=>aM R.pl n.sh.pl*(ao 109 2 z1.1 C2.length z1.2 (mO C2)*(NH pn c R*(ao 66 1 R.ws.1 c.n R.ws.2 (c9 c.n fun i=>(R.wk i).p)*(aE (gN R n.wk) c.n*(bP R.ep n.sh.ep n.sh.gs*(aK R.tb R.pl c.nb n.sh.tb*(aE (bI c R n.sh) 3*F)))))))) ?_ ?_
 ·by_cases h1:v.st=1
  ·rw[decide_eq_true (.inl h1)]
   repeat first|refine aa ?_ |intro
   exact ei () trivial ⟨rfl,rfl,rfl,rfl,trivial⟩ (U.sat (U.refl _))
  ·by_cases h2:v.st=2
   ·rw[decide_eq_true (.inr h2)]
    repeat first|refine aa ?_ |intro
    exact ei () trivial ⟨rfl,rfl,rfl,rfl,trivial⟩ (U.sat (U.refl _))
   ·rw[decide_eq_false (fun h=>h.elim h1 h2)]
    repeat first|refine aa ?_ |intro
    exact ei () trivial ⟨rfl,rfl,rfl,rfl,trivial⟩ (U.sat (U.refl _))
 intro _ _
 refine kN (γ:=aP) (fun _=>True) (fun z=>[(0,.pointer pn),(7,.int .i64 (id:Int)),(10,.slice z.1 (C2++kq n.sh id).length z.2)]) (fun z=>ao 109 2 z.1 (C2++kq n.sh id).length z.2 (mO (C2++kq n.sh id))*(dh pn c n R*F)) ?_ ?_
 ·by_cases h1:v.st=1∨v.st=2
  ·rw[if_pos h1]at wa
   rw[wa,decide_eq_true h1]
   repeat first|refine aa ?_ |intro
   rename_i z2
   exact ei z2 trivial ⟨rfl,rfl,by rw[List.length_append];rfl,trivial⟩ (U.sat (by rw[yL,List.length_append];exact U.cons (U.trans (ad) IJ)))
  ·rw[if_neg h1]at wa
   rw[wa,List.append_nil,decide_eq_false h1]
   repeat first|refine aa ?_ |intro
   exact ei z1 trivial ⟨rfl,rfl,rfl,trivial⟩ (U.sat (U.cons (U.trans (ad) IJ)))
 intro z2 _
 have e3n:(C2++kq n.sh id).length≤66:=by rw[List.length_append,wa];split<;>simp<;>omega
 generalize C2++kq n.sh id=C3 at*
 rw[dh.eq]
 simp only[dj]
 repeat first|refine aa ?_ |intro
 have Sp:=fun w=>HF n id w
 have Sw:∀w,iV n id (w+1)=iV n id w++if qw n w id=true then [(4,(w:Int))]else []:=fun w=>rfl
 refine ff (γ:=Nat×aP) (fun g=>g.1≤c.n) (fun g=>[(0,.pointer pn),(7,.int .i64 (id:Int)),(10,.slice g.2.1 (C3++iV n id g.1).length g.2.2),(105,.int .i64 (c.n:Int)),(106,.int .i64 (g.1:Int))])
  (fun g=>ao 109 2 g.2.1 (C3++iV n id g.1).length g.2.2 (mO (C3++iV n id g.1))*(cM pn c n*F)) (fun g=>c.n-g.1) (0,z2) (Nat.zero_le _) ⟨rfl,rfl,by dsimp only[iV];rw[List.append_nil];rfl,rfl,rfl,trivial⟩ (U.sat (by dsimp only[iV];rw[List.append_nil];refine U.cons (U.trans ?_ iZ);simp only[dj];exact ad)) ?_
 intro ⟨w,z⟩ h1;dsimp only at h1 ⊢
 have tv:=Sp w
 have mR:C3++iV n id (w+1)=(C3++iV n id w)++if qw n w id=true then [(4,(w:Int))]else []:=by rw[Sw,List.append_assoc]
 have Sq:(C3++iV n id w).length≤w+66:=by rw[List.length_append];omega
 by_cases hw:w<c.n
 ·generalize C3++iV n id w=CL at*
  repeat first|refine aa ?_ |intro
  refine ag rfl (Spec.pre (Pj (F:=ao 109 2 z.1 CL.length z.2 (mO CL)*F) hc hw (by omega) h.gs (h.gl w hw) (h.cl w hw)) (ad)) ?_
  intro _
  by_cases hh:qw n w id=true
  ·rw[hh]
   repeat first|refine aa ?_ |intro
   rename_i z3
   refine cT (w+1,z3) (by dsimp only;omega) (by dsimp only;omega) ?_ (U.sat ?_)
   ·dsimp only
    rw[mR,if_pos hh]
    exact⟨rfl,rfl,by rw[List.length_append];rfl,rfl,rfl,trivial⟩
   ·dsimp only
    rw[mR,if_pos hh,yL,List.length_append]
    exact ad
  ·rw[show qw n w id=false by simpa using hh]
   repeat first|refine aa ?_ |intro
   refine cT (w+1,z) (by dsimp only;omega) (by dsimp only;omega) ?_ (U.sat ?_)
   ·dsimp only
    rw[mR,if_neg hh,List.append_nil]
    exact⟨rfl,rfl,rfl,rfl,rfl,trivial⟩
   ·dsimp only
    rw[mR,if_neg hh,List.append_nil]
    exact ad
 ·have e:w=c.n:=by omega
  subst e
  repeat first|refine aa ?_ |intro
  exact ae (aw rfl rfl z rfl (U.sat (ad)))
end
section
section
variable {o:OF} {G G':Gh} {n n':bm} {s s':aW} {w v x z y:Nat} {k k':aR} {f f':aH}
theorem range_one (y:Nat):∀N,(List.range N).filter (fun x=>decide (x=y))=if y<N then [y]else []
 |0=>by simp
 |N+1=>by
  rw[List.range_succ,List.filter_append,range_one y N]
  by_cases e:N=y
  ·subst e
   rw[if_neg (by omega),if_pos (by omega)]
   simp
  ·by_cases h:y<N
   ·rw[if_pos h,if_pos (by omega)]
    simp[e]
   ·rw[if_neg h,if_neg (by omega)]
    simp[e]
theorem Ag (hn:dM o G n)(hi:∀w,w<o.c.n→(n.wk.getD w ax).frame=none)(hx:G.x≠some x):(bC n.sh (x:Int)).st=0:=by
 unfold bC
 rw[Int.toNat_natCast]
 by_cases h:∃z v,z<o.c.np∧x=o.pid z∧G.own z=some v
 ·obtain⟨z,v,h1,rfl,h3⟩:=h
  have hv:=(hn.sh.lt z v h3).1
  have hW:=hn.wk v hv
  rcases hW.mq z h3 with h4|h4|⟨f,h4,_⟩
  ·exact hW.fz z h3 h4
  ·exact absurd h4 hx
  ·rw[hi v hv]at h4;cases h4
 ·rw[hn.sh.rX x fun z hz e=>by
   cases hq:G.own z with
   |none=>rfl
   |some v=>exact absurd ⟨z,v,hz,e,hq⟩ h]
  rfl
theorem KM (ho:o.Ok)(hn:dM o G n)(hi:∀w,w<o.c.n→(n.wk.getD w ax).frame=none)(hy:G.x=some y)(cJ:(aJ.of (n.sh.pl.getD (2*y) 0)).st=2):mJ o.c n.sh=[Cu o.c n.sh y]:=by
 have hp:∀x,vb n.sh x=decide (x=y):=fun x=>by
  unfold vb
  by_cases e:x=y
  ·subst e
   rw[decide_eq_true rfl]
   unfold bC
   rw[Int.toNat_natCast,cJ];rfl
  ·rw[decide_eq_false e,Ag hn hi (fun q=>e (by rw[hy]at q;exact(Option.some.inj q).symm))];rfl
 unfold mJ kn
 rw[show vb n.sh=fun x=>decide (x=y)from funext hp,range_one,if_pos (ho.ye hn.sh hy).1]
 rfl
theorem vQ {kd:Nat}:∀m,(∀w,w<m→mY n kd x w=false)→fO n kd x m=[]
 |0,_=>rfl
 |m+1,h=>by
  unfold fO
  rw[vQ m fun w hw=>h w (by omega),h m (by omega)];rfl
theorem HE {kd:Nat}(hv:mY n kd x v=true):∀m,v<m→(∀w,w<m→w≠v→mY n kd x w=false)→fO n kd x m=[(2,(v:Int))]
 |0,h,_=>by omega
 |m+1,h,g=>by
  unfold fO
  by_cases e:v=m
  ·subst e
   rw[vQ v fun w hw=>g w (by omega) (by omega),hv];rfl
  ·rw[HE hv m (by omega) fun w hw dc=>g w (by omega) dc,g m (by omega) (fun q=>e q.symm)];rfl
theorem HG {id:Nat}:∀m,(∀w,w<m→qw n w id=false)→iV n id m=[]
 |0,_=>rfl
 |m+1,h=>by
  unfold iV
  rw[HG m fun w hw=>h w (by omega),h m (by omega)];rfl
theorem KN (ho:o.Ok)(hn:dM o G n)(hi:∀w,w<o.c.n→(n.wk.getD w ax).frame=none){kd:Nat}(hk:kd<3)(hx:x<o.c.np):∃a,pY o.c n kd x=[a]∧(a=(1, -1)∨a=(3, -1)∨∃w,w<o.c.n∧a=(2,(w:Int))):=by
 have c3:=ho.np
 have h4:iV n (kd*o.c.np+x) o.c.n=[]:=HG _ fun w hw=>by
  unfold qw
  rw[hn.sh.gs w,(hn.wk w hw).aX];rfl
 have c5:∀kd,x∈gh (n.sh.po kd) ((o.c.np+31)/32*32)↔fk (n.sh.po kd) x=true:=fun kd=>by
  unfold gh
  rw[List.mem_filter,List.mem_range]
  exact⟨fun q=>q.2,fun q=>⟨by omega,q⟩⟩
 have hh:∀w,w<o.c.n→mY n kd x w=decide (x∈((n.wk.getD w ax).ca kd).l):=fun w hw=>by
  unfold mY
  rw[(hn.wk w hw).out kd hk]
  show(_||decide (x∈ []))=_
  simp
 unfold pY
 rw[h4,List.append_nil]
 by_cases e:kd=o.kd
 ·subst e
  cases hq:G.own x with
  |none=>
   have h1:lP o.c n.sh o.kd x=[(1, -1)]:=by
    unfold lP
    rw[if_pos ((c5 _).2 ((hn.sh.fr x hx).2 hq))]
   have h2:fO n o.kd x o.c.n=[]:=vQ _ fun w hw=>by
    rw[hh w hw]
    exact decide_eq_false fun q=>by
     have:=((hn.wk w hw).own x q).2
     rw[hq]at this;cases this
   have h3:kq n.sh (o.kd*o.c.np+x)=[]:=by
    unfold kq
    rw[Ag hn hi fun q=>by
     obtain⟨z,_,q2,q3,_⟩:=hn.sh.xk _ q
     have q2:o.pid x=o.pid z:=q2
     have:=pg q2
     subst this
     rw[hq]at q3;cases q3]
    rfl
   exact⟨_,by rw[h1,h2,h3];rfl,.inl rfl⟩
  |some v=>
   have hv:=(hn.sh.lt x v hq).1
   have h1:lP o.c n.sh o.kd x=[]:=by
    unfold lP
    rw[if_neg fun q=>by
     have:=(hn.sh.fr x hx).1 ((c5 _).1 q)
     rw[hq]at this;cases this]
   by_cases zS:G.x=some (o.pid x)
   ·have h2:fO n o.kd x o.c.n=[]:=vQ _ fun w hw=>by
     rw[hh w hw]
     exact decide_eq_false fun q=>(hn.wk w hw).j2 x q zS
    have h3:kq n.sh (o.kd*o.c.np+x)=[(3, -1)]:=by
     unfold kq
     obtain⟨z,_,_,_,q4,_⟩:=hn.sh.xk _ zS
     have q5:=q4.xM.2
     have q6:=q4.made.1
     rw[if_pos]
     unfold bC
     rw[Int.toNat_natCast]
     rcases q5 with q|q
     ·left
      have:aJ.of (n.sh.pl.getD (2*(o.kd*o.c.np+x)) 0)=o.v1 G.wx:=q
      rw[this];exact q6
     ·exact .inr q
    exact⟨_,by rw[h1,h2,h3];rfl,.inr (.inl rfl)⟩
   ·have hW:=hn.wk v hv
    have bJ:x∈((n.wk.getD v ax).ca o.kd).l:=by
     rcases hW.mq x hq with q|q|⟨f,q,_⟩
     ·exact q
     ·exact absurd q zS
     ·rw[hi v hv]at q;cases q
    have h2:fO n o.kd x o.c.n=[(2,(v:Int))]:=HE (by rw[hh v hv];exact decide_eq_true bJ) _ hv fun w hw dc=>by
     rw[hh w hw]
     exact decide_eq_false fun q=>by
      have:=((hn.wk w hw).own x q).2
      rw[hq]at this
      exact dc (Option.some.inj this).symm
    have h3:kq n.sh (o.kd*o.c.np+x)=[]:=by
     unfold kq
     have q:(bC n.sh ((o.kd*o.c.np+x:Nat):Int)).st=0:=Ag hn hi zS
     rw[q];rfl
    exact⟨_,by rw[h1,h2,h3];rfl,.inr (.inr ⟨v,hv,rfl⟩)⟩
 ·have h1:lP o.c n.sh kd x=[(1, -1)]:=by
   unfold lP
   rw[if_pos ((c5 _).2 (by rw[hn.sh.tH kd hk e];exact(Ey (by omega)).1 hx))]
  have h2:fO n kd x o.c.n=[]:=vQ _ fun w hw=>by
   rw[hh w hw,(hn.wk w hw).cn kd hk e]
   rfl
  have h3:kq n.sh (kd*o.c.np+x)=[]:=by
   unfold kq
   rw[Ag hn hi fun q=>by
    obtain⟨z,q1,q2,_⟩:=hn.sh.xk _ q
    have q3:=Ec (kd:=kd) hx
    have q4:=Ec (kd:=o.kd) q1
    have q2:kd*o.c.np+x=o.kd*o.c.np+z:=q2
    rw[q2,q4.1]at q3
    exact e q3.1.symm]
   rfl
  exact⟨_,by rw[h1,h2,h3];rfl,.inl rfl⟩
end
end
section
section
variable {c:NC} {b:List UInt8} {pr S f top:Nat} {tk:Nat→Nat}
theorem xA (hc:c.Ok)(hn:c.n≤4)(c3:c.np=40)(hb:pH b pr S f)(hp:pr=17∨pr=6)(nh:∀w,tk w≤top)(ma:top≤4294967295):(OF.mk c ⟨pr,S,f⟩ b tk top).Ok:=by
 have zA:=hc.b
 have Tq:2≤c.nb:=by unfold iI at zA;omega
 obtain⟨s1,s2,s3⟩:=xO (n:=qq ⟨pr,S,f⟩) Tq
 exact {
  c:=hc
  n4:=hn
  np:=c3
  fR:=hb.fR _
  cQ:=hb.cQ
  ct:=hb.ct
  read:=hb.read
  proto:=by
   show kY pr
   unfold kY
   omega
  Ls:=by
   show mi pr true=true
   rcases hp with e|e<;>subst e<;>rfl
  err:=hb.err
  tk:=nh
  top:=ma
  tr:=fun x hx=>by
   show iF pr x true _≤7
   unfold iF yR
   repeat' split
   all_goals omega
  ab:=s3
  an:=s1}
end
end
section
open Go.RowKit
set_option maxRecDepth 10000
attribute [local irreducible] EK EX ER EN EL ES EG az ba bf
variable {W:World} {F:SL} {X:Cx} {k:List KI} {σ:Env}
def Ex (z:Int):Nat:=[2,4,16,64].getD (um z 4) 2
def kH (x z:Int):NC:=⟨1+um x 4,3221225985,1000,1039,Ex z,4⟩
theorem Ae (x z:Int):(kH x z).Ok:=by
 have h:=mr x (m:=4) (by decide)
 have h2:=mr z (m:=4) (by decide)
 refine⟨by unfold kH;dsimp only;omega,by unfold kH;dsimp only;omega,by unfold kH;dsimp only;omega,?_,by unfold kH;dsimp only;omega⟩
 show iI ((Ex z:Nat):Int)
 unfold Ex
 generalize um z 4=i at*
 obtain rfl|rfl|rfl|rfl:i=0∨i=1∨i=2∨i=3:=by omega
 all_goals (unfold iI;decide)
theorem FQ (x z:Int):Spec Tryz.prog 17 [.int .i64 x,.int .i64 39,.int .i64 z] W F (fun _:Unit=>(kH x z).cfg.val) (fun _=>F):=by
 refine Spec.of Tryz.func17 rfl Tryz.ntmps17 rfl ?_
 repeat first|refine aa ?_ |intro
 have ux:=se x (m:=4) (by decide) (by decide)
 have uz:=se z (m:=4) (by decide) (by decide)
 have n4:((4:Nat):Int)=4:=rfl
 rw[n4]at ux uz
 have lx:=mr x (m:=4) (by decide)
 have lz:=mr z (m:=4) (by decide)
 have ex:IntKind.i64.wrap (1+((um x 4:Nat):Int))=((1+um x 4:Nat):Int):=by
  rw[IntKind.wrap_i64];omega
 rw[ux,uz,ex]
 have hv:(kH x z).cfg.val= .agg #[.int .i64 ((1+um x 4:Nat):Int),.int .u32 3221225985,.int .i64 1000,.int .i64 1039,.int .i64 (([2,4,16,64].getD (um z 4) 2:Nat):Int),.int .i64 4]:=rfl
 rw[hv]
 generalize um z 4=i at*
 obtain rfl|rfl|rfl|rfl:i=0∨i=1∨i=2∨i=3:=by omega
 all_goals
  repeat first|refine aa ?_ |intro
  refine ae (kO (rv:= .cell 6 34) rfl ⟨_,rfl,bc.agg rfl⟩ () rfl (U.sat ?_))
  exact av
end
section
open Go.RowKit
set_option maxRecDepth 10000
attribute [local irreducible] EK EX ER EN EL ES EG az ba bf
variable {W:World} {F:SL} {X:Cx} {k:List KI} {σ:Env} {pn:Option Addr} {c:NC} {n:bm} {w K B:Nat}
theorem O0 (hl:n.wk.length=c.n)(hw:w<c.n)(hf:(n.wk.getD w ax).frame=none)(hx:(n.wk.getD w ax).aX=none):Spec Tryz.prog 9 [.pointer pn,.int .i64 (w:Int)] W (cM pn c n*F) (fun _:Unit=> .bool (de c w n).2) (fun _=>cM pn c (de c w n).1*F):=by
 refine Spec.sT fun R=> ?_
 rw[dh.at hw,hf]
 rw[KB hl hw hf hx]
 have hid:(n.wk.getD w ax).busy=false:=by unfold aR.busy;rw[hf,hx];rfl
 have og:=N5 (W:=W) (pn:=pn) (R:=R) (b:=none) (F:=aE (eG R.po (R.wk w) (n.wk.getD w ax)) 3*(dR (R.wk w).wh (n.wk.getD w ax).bp*(fU iq gy (R.wk w).m (n.wk.getD w ax).cm*(ao 5 1 (R.wk w).told.1 (n.wk.getD w ax).cj.length (R.wk w).told.2 (aA (n.wk.getD w ax).cj)*(ao 287 2 (R.wk w).ended.1 (n.wk.getD w ax).ended.length (R.wk w).ended.2 (mb (n.wk.getD w ax).ended)*(aE (df (gN R n.wk) w) c.n*dj c R n.sh F)))))) hw (P:=R.wk w) rfl hid
 rw[hf,hx]at og
 simp only[ia]at og ⊢
 refine(Spec.pre og (by simp only[br,dj];exact ad)).mono fun _=>⟨(),rfl,?_⟩
 refine U.ex R ?_
 rw[dh.at hw,hf,hx]
 simp only[ia,br,dj]
 exact ad
theorem Gy (hT:gE W)(hc:c.Ok)(h:Safe c K B n)(hK:K<65000)(hB:B≤300)(hw:w<c.n)(hx:(n.wk.getD w ax).aX=none):Spec Tryz.prog 9 [.pointer pn,.int .i64 (w:Int)] W (cM pn c n*F) (fun _:Unit=> .bool (de c w n).2) (fun _=>cM pn c (de c w n).1*F):=by
 cases hf:(n.wk.getD w ax).frame with
 |none=>exact O0 h.len hw hf hx
 |some f=>
  have cJ:=h.AF hc hK hB hw hf
  exact Gz hT hc h.len hw hf cJ.1 cJ.2
theorem Safe.HN (hc:c.Ok)(h:Safe c K B n)(hK:K<65000)(hw:w<c.n)(hx:(n.wk.getD w ax).aX=none):∃K',K'≤K+1∧Safe c K' B (de c w n).1:=by
 cases hf:(n.wk.getD w ax).frame with
 |none=>
  rw[KB h.len hw hf hx]
  exact⟨K,by omega,h⟩
 |some f=>exact⟨K+1,Nat.le_refl _,h.HP hc hK hw hf⟩
end
section
open Go.RowKit
set_option maxRecDepth 10000
attribute [local irreducible] EK EX ER EN EL ES EG az ba bf
variable {W:World} {F:SL} {X:Cx} {k:List KI} {σ:Env} {pn:Option Addr} {c:NC} {n:bm} {w K B:Nat}
attribute [local simp] CC
set_option maxHeartbeats 4000000 in
theorem FR (hc:c.Ok)(hn:vk c n)(h1:∀kd x,kd<3→x<c.np→∃a,pY c n kd x=[a]∧(a=(1, -1)∨a=(3, -1)∨∃w,w<c.n∧a=(2,(w:Int)))){wo nn jp:Option Addr}{jn jc evn wn:Nat}{next clock:Int}{ev d s t e:aP}:
  Spec Tryz.prog 14 [.pointer wo] W (Obj wo 39 (dL nn c jp jn jc next ev evn wn d s t e clock)*(cM nn c n*F)) (fun _:Unit=> .bool true) (fun _=>Obj wo 39 (dL nn c jp jn jc next ev evn wn d s t e clock)*(cM nn c n*F)):=by
 refine Spec.of Tryz.func14 rfl Tryz.ntmps14 rfl ?_
 have hp:=hc.p
 have zC:=hc.n
 have c3:c.np=c.hi+1-c.lo:=rfl
 repeat first|refine aa ?_ |intro
 refine ff (γ:=Nat) (fun i=>i≤3) (fun i=>[(0,.pointer wo),(3,.int .i64 (i:Int))])
  (fun _=>Obj wo 39 (dL nn c jp jn jc next ev evn wn d s t e clock)*(cM nn c n*F)) (fun i=>3-i) 0 (by decide) ⟨rfl,rfl,trivial⟩ (U.sat (av)) ?_
 intro i hi;dsimp only at hi ⊢
 by_cases SZ:i<3
 ·haveI A1:eK [.int .i64 1,.int .i64 6,.int .i64 17] i 1 0 (.int .i64 (oA (i:Int))) (i<3):=⟨fun h=>by
   obtain rfl|rfl|rfl:i=0∨i=1∨i=2:=by omega
   all_goals rfl⟩
  repeat first|refine aa ?_ |intro
  refine ff (γ:=Nat) (fun j=>j≤c.np) (fun j=>[(0,.pointer wo),(3,.int .i64 (i:Int)),(4,.int .i64 ((c.lo:Int)+(j:Int)))])
   (fun _=>Obj wo 39 (dL nn c jp jn jc next ev evn wn d s t e clock)*(cM nn c n*F)) (fun j=>c.np-j) 0 (Nat.zero_le _) ⟨rfl,rfl,by rw[show((0:Nat):Int)=0 from rfl,Int.add_zero];rfl,trivial⟩ (U.sat (av)) ?_
  intro j hj;dsimp only at hj ⊢
  by_cases zu:j<c.np
  ·repeat first|refine aa ?_ |intro
   refine aL 10 (Obj wo 39 (dL nn c jp jn jc next ev evn wn d s t e clock)*1) rfl rfl rfl ?_
   repeat(first|refine aq ?_ |refine eD ?_)
   obtain⟨a,ha,De⟩:=h1 i j SZ zu
   have iD:=fun G=>N1 (W:=W) (pn:=nn) (F:=G) hc hn (kd:=i) (x:=j) (by omega) zu
   repeat(first|refine bQ ?_ |(refine bU ?_;intro)|refine bR ?_ |refine bS ?_ |refine bT ?_ |refine eD ?_)
   rename_i q
   refine aI rfl rfl rfl rfl rfl (Spec.pre (iD (ao 3 1 q 3 3 [.int .i64 1,.int .i64 6,.int .i64 17]*(Obj wo 39 (dL nn c jp jn jc next ev evn wn d s t e clock)*F))) (av)) (fun _=>av) ?_
   intro z
   rw[ha,show([a]:List (Int×Int)).length=1 from rfl]
   repeat(first|refine bQ ?_ |(refine bU ?_;intro)|refine bR ?_ |refine bS ?_ |refine bT ?_ |refine eD ?_)
   rw[show mO [a]=[.int .i64 a.1,.int .i64 a.2]from rfl]
   haveI:Pos 1:=⟨Nat.one_pos⟩
   obtain rfl|rfl|⟨w,hw,rfl⟩:=De
   ·haveI:eK [.int .i64 1,.int .i64 (-1)] 0 2 0 (.int .i64 1) (0<1):=⟨fun _=>rfl⟩
    haveI:eK [.int .i64 1,.int .i64 (-1)] 0 2 1 (.int .i64 (-1)) (0<1):=⟨fun _=>rfl⟩
    dsimp only
    repeat first|refine aa ?_ |intro
    refine lB rfl (by kernel_rfl) ?_
    repeat(refine cV ?_)
    repeat first|refine aa ?_ |intro
    exact cT (j+1) (by omega) (by omega) ⟨rfl,rfl,by rw[show(((j+1:Nat)):Int)=(j:Int)+1 from rfl,←Int.add_assoc];rfl,trivial⟩ (U.sat (av))
   ·haveI:eK [.int .i64 3,.int .i64 (-1)] 0 2 0 (.int .i64 3) (0<1):=⟨fun _=>rfl⟩
    haveI:eK [.int .i64 3,.int .i64 (-1)] 0 2 1 (.int .i64 (-1)) (0<1):=⟨fun _=>rfl⟩
    dsimp only
    repeat first|refine aa ?_ |intro
    refine lB rfl (by kernel_rfl) ?_
    repeat(refine cV ?_)
    repeat first|refine aa ?_ |intro
    exact cT (j+1) (by omega) (by omega) ⟨rfl,rfl,by rw[show(((j+1:Nat)):Int)=(j:Int)+1 from rfl,←Int.add_assoc];rfl,trivial⟩ (U.sat (av))
   ·haveI:eK [.int .i64 2,.int .i64 (w:Int)] 0 2 0 (.int .i64 2) (0<1):=⟨fun _=>rfl⟩
    haveI:eK [.int .i64 2,.int .i64 (w:Int)] 0 2 1 (.int .i64 (w:Int)) (0<1):=⟨fun _=>rfl⟩
    dsimp only
    repeat first|refine aa ?_ |intro
    refine lB rfl (by kernel_rfl) ?_
    repeat(refine cV ?_)
    repeat first|refine aa ?_ |intro
    exact cT (j+1) (by omega) (by omega) ⟨rfl,rfl,by rw[show(((j+1:Nat)):Int)=(j:Int)+1 from rfl,←Int.add_assoc];rfl,trivial⟩ (U.sat (av))
  ·repeat first|refine aa ?_ |intro
   exact cT (i+1) (by omega) (by omega) ⟨rfl,rfl,trivial⟩ (U.sat (av))
 ·have e3:i=3:=by omega
  subst e3
  repeat first|refine aa ?_ |intro
  exact ae (aw rfl rfl () rfl (U.sat (av)))
end
section
section
variable {o:OF} {G:Gh} {n:bm} {w K B:Nat}
theorem KO (ho:o.Ok)(hn:dM o G n)(hs:Safe o.c K B n):vk o.c n:=by
 have il:o.kd<3:=gH _
 have wX:mC o.c.np (dy o.c.np):=mC.new (by have:=ho.np;omega) (by have:=ho.np;omega)
 refine⟨hs.sh.ep.rA,fun w hw=>by rw[hn.sh.gs w];exact Nat.zero_le _,fun w hw x hx=> ?_,fun i hi=> ?_,fun w hw i hi=> ?_,fun w hw i hi q hq=> ?_,hs.sh.pl⟩
 ·rw[(hn.wk w hw).aX]at hx;cases hx
 ·by_cases e:i=o.kd
  ·subst e;exact hn.sh.po.words
  ·rw[hn.sh.tH i hi e];exact wX.words
 ·by_cases e:i=o.kd
  ·subst e
   have:=(hn.wk w hw).len
   omega
  ·rw[(hn.wk w hw).cn i hi e];exact Nat.zero_le _
 ·rw[(hn.wk w hw).out i hi]at hq;cases hq
structure B1 (o:OF)(k:Nat)(n:bm):Prop where
 one:dM o ze n
 safe:Safe o.c 0 k n
 idle:∀v,k≤v→v<o.c.n→(n.wk.getD v ax).frame=none
 act:∀v,v<k→lA o n v
theorem Hd (ho:o.Ok):B1 o 0 (dI o.c):=⟨WA ho,Safe.new ho.c,fun v _ hv=>by rw[ve _ hv];rfl,fun v hv=>by omega⟩
theorem He {k:Nat}(h:B1 o k n)(hk:k<o.c.n)(hb:o.b.length≤140737488355328):(fp n k true o.b (o.tk k:Int)).2=0∧B1 o (k+1) (fp n k true o.b (o.tk k:Int)).1:=by
 have hf:=h.idle k (Nat.le_refl _) hk
 have hi:(n.wk.getD k ax).busy=false:=by
  unfold aR.busy
  rw[hf,(h.one.wk k hk).aX];rfl
 have e:fp n k true o.b (o.tk k:Int)=(⟨n.sh,n.wk.set k (oN (n.wk.getD k ax) true o.b (o.tk k:Int))⟩,0):=by
  unfold fp
  rw[if_neg (by rw[hi];decide)];rfl
 rw[e]
 have hw:(n.wk.set k (oN (n.wk.getD k ax) true o.b (o.tk k:Int))).getD k ax=oN (n.wk.getD k ax) true o.b (o.tk k:Int):=FJ (by rw[h.one.wl];exact hk)
 refine⟨rfl,KL h.one hk hf rfl,h.safe.begin hk hi true hb _,fun v h1 h2=> ?_,fun v hv=> ?_⟩
 ·show((n.wk.set k _).getD v ax).frame=none
  rw[ui (by omega)]
  exact h.idle v (by omega) h2
 ·by_cases q:v=k
  ·subst q
   intro q
   have q:((n.wk.set v (oN (n.wk.getD v ax) true o.b (o.tk v:Int))).getD v ax).frame=none:=q
   rw[hw]at q;cases q
  ·have:=h.act v (by omega)
   unfold lA at this ⊢
   show((n.wk.set k _).getD v ax).frame=none→((n.wk.set k _).getD v ax).any=true
   rw[ui q];exact this
structure B2 (o:OF)(i:Nat)(n:bm):Prop where
 one:∃G,dM o G n
 safe:∃K,K≤i∧Safe o.c K 4 n
 act:∀v,v<o.c.n→lA o n v
theorem XE {c:NC}{n:bm}{K:Nat}(h:Safe c K B n):Safe c K (B+1) n:=h.room
theorem Ff {c:NC}{n:bm}{K:Nat}(h:Safe c K B n):∀d,Safe c K (B+d) n
 |0=>h
 |d+1=>XE (Ff h d)
theorem PN (h:B1 o o.c.n n)(ho:o.Ok):B2 o 0 n:=⟨⟨_,h.one⟩,⟨0,Nat.le_refl _,by have:=Ff h.safe (4-o.c.n);rwa[show o.c.n+(4-o.c.n)=4 by have:=ho.n4;omega]at this⟩,h.act⟩
theorem PO {i:Nat}(ho:o.Ok)(h:B2 o i n)(hi:i<65000)(hw:w<o.c.n):B2 o (i+1) (de o.c w n).1:=by
 obtain⟨⟨G,h1⟩,⟨K,h2,h3⟩,h4⟩:=h
 obtain⟨G',g1,_⟩:=KP ho h1 hw
 obtain⟨K',k1,k2⟩:=h3.HN ho.c (by omega) hw (h1.wk w hw).aX
 exact⟨⟨G',g1⟩,⟨K',by omega,k2⟩,fun v hv=>G1 ho h1 hw (h4 v hv)⟩
structure B3 (o:OF)(k i:Nat)(n:bm):Prop where
 two:B2 o i n
 done:∀v,v<k→(n.wk.getD v ax).frame=none
theorem Av {l:List UInt8}{out:Bool}{a p:Nat}:(jf l out a p).length≤l.length:=by
 unfold jf
 split
 ·rw[Xy,List.length_take];omega
 ·exact Nat.zero_le _
theorem PT {k i:Nat}(h:B3 o k i n)(hw:w<o.c.n)(hk:w<k):(n.wk.getD w ax).any=true∧(n.wk.getD w ax).iM=0∧(n.wk.getD w ax).cj.length≤o.b.length∧(n.wk.getD w ax).cj=(n.wk.getD 0 ax).cj:=by
 obtain⟨⟨⟨G,h1⟩,_,h4⟩,h5⟩:=h
 have ha:=h4 w hw (h5 w hk)
 have Sy:=h4 0 (by omega) (h5 0 (by omega))
 obtain⟨e1,y,e2,e3,_⟩:=tC h1 hw (h5 w hk) ha
 obtain⟨_,y',f2,f3,_⟩:=tC h1 (by omega) (h5 0 (by omega)) Sy
 rw[e2]at f2
 cases f2
 exact⟨ha,e1,by rw[e3];exact Av,e3.trans f3.symm⟩
theorem PR {k i:Nat}{f:aH}(ho:o.Ok)(h:B3 o k i n)(hk:k<o.c.n)(hi:i+40≤60000)(hf:(n.wk.getD k ax).frame=some f):∃m n',m≤40∧ig o.c k m n n' true∧qI o.c k m n∧B3 o (k+1) (i+40) n'∧(∀v,v≠k→n'.wk.getD v ax=n.wk.getD v ax)∧∃K,K≤i∧Safe o.c K 4 n:=by
 obtain⟨⟨⟨G,h1⟩,⟨K,h2,h3⟩,h4⟩,h5⟩:=h
 obtain⟨m,n',G',a1,a2,a3,a4,⟨a5,a6⟩,_⟩:=EE ho hk 39 n G f h1 hf Gx
 have tl:∀v,v≠k→n'.wk.getD v ax=n.wk.getD v ax:=fun v hv=>by
  rw[←a2.2.1];exact Fb hv m n
 refine⟨m,n',by omega,a2,a3,⟨⟨⟨G',a4⟩,⟨K+m,by omega,Safe.yS ho.c hk h3 (by omega) a2 a3⟩,fun v hv=> ?_⟩,fun v hv=> ?_⟩,tl,K,h2,h3⟩
 ·by_cases e:v=k
  ·subst e;exact fun _=>a6
  ·unfold lA;rw[tl v e];exact h4 v hv
 ·by_cases e:v=k
  ·subst e;exact a5
  ·rw[tl v e];exact h5 v (by omega)
theorem PS {k i:Nat}(h:B3 o k i n)(hf:(n.wk.getD k ax).frame=none):B3 o (k+1) i n:=⟨h.two,fun v hv=>by
 by_cases e:v=k
 ·subst e;exact hf
 ·exact h.done v (by omega)⟩
theorem PQ {i:Nat}(ho:o.Ok)(h:B3 o o.c.n i n)(hw:w<o.c.n)(ht:o.tk w=o.top):(∃b,mJ o.c n.sh=[b]∧b.seen=o.top)∧vk o.c n∧∀kd x,kd<3→x<o.c.np→∃a,pY o.c n kd x=[a]∧(a=(1, -1)∨a=(3, -1)∨∃w,w<o.c.n∧a=(2,(w:Int))):=by
 obtain⟨⟨⟨G,h1⟩,⟨K,h2,h3⟩,h4⟩,h5⟩:=h
 obtain⟨e1,y,e2,e3,e4,e5⟩:=tC h1 hw (h5 w hw) (h4 w hw (h5 w hw))
 refine⟨⟨_,KM ho h1 h5 e2 e5,?_⟩,KO ho h1 h3,fun kd x bl hx=>KN ho h1 h5 bl hx⟩
 obtain⟨z,_,_,_,_,_,q6,_⟩:=h1.sh.xk y e2
 show(bC n.sh (y:Int)).sn=o.top
 unfold bC
 rw[Int.toNat_natCast]
 omega
end
end
section
open Go.RowKit
set_option maxRecDepth 10000
attribute [local irreducible] EK EX ER EN EL ES EG az ba bf
variable {W:World} {F:SL} {X:Cx} {k:List KI} {σ:Env}
def Xc (x z:Int)(pr S f:Nat)(b:List UInt8):OF:=OF.mk (kH x z) ⟨pr,S,f⟩ b (fun w=>min w (um x 4)) (um x 4)
theorem Xd {x z:Int}{pr S f:Nat}{b:List UInt8}(hb:pH b pr S f)(hp:pr=17∨pr=6):∃o:OF,o.Ok∧kH x z=o.c∧o.b=b∧o.top=o.c.n-1∧∀w,w<o.c.n→o.tk w=w:=by
 have h:=mr x (m:=4) (by decide)
 have hn:(kH x z).n=1+um x 4:=rfl
 refine⟨Xc x z pr S f b,xA (Ae x z) (by omega) rfl hb hp (fun w=>Nat.min_le_right _ _) (by omega),rfl,rfl,?_,fun w hw=> ?_⟩
 ·show um x 4=(kH x z).n-1
  omega
 ·have hw:w<(kH x z).n:=hw
  show min w (um x 4)=w
  omega
theorem B3.more {o:OF}{k i j:Nat}{n:bm}(h:B3 o k i n)(hj:i≤j):B3 o k j n:=⟨⟨h.two.one,by obtain⟨K,h1,h2⟩:=h.two.safe;exact⟨K,by omega,h2⟩,h.two.act⟩,h.done⟩
structure Cf (o:OF)(k:Nat)(n:bm)(l:List UInt8):Prop where
 b:B3 o k (600+40*k) n
 l:0<k→l=(n.wk.getD 0 ax).cj
set_option maxHeartbeats 4000000 in
theorem O1 (hT:gE W)(x y z:Int){p:Option Addr}{cp:Nat}{l:List UInt8}(out:Bool)(wt fR port fl lK tick:Int)(pT:Nat)(so:Ro W p l.length (aA l))(DD:l.length≤cp)(mT:cp≤140737488355328){pq:Option Addr}{cq:Nat}{ps:List Int}(sq:Ro W pq ps.length (im .i64 ps)):
  Spec Tryz.prog 3 [.agg #[.int .i64 x,.int .i64 y,.int .i64 z],.agg #[.bool out,.int .i64 wt,.int .i64 fR,.int .i64 port,.int .i64 fl,.slice p l.length cp,.int .i64 lK,.int .u8 (pT:Int),.int .i64 tick],.slice pq ps.length cq] W F (fun _:Unit=> .bool true) (fun _=>F):=by
 refine Spec.of Tryz.func3 rfl Tryz.ntmps3 rfl ?_
 haveI rm:∀F:SL,Room W F p l.length cp:=fun F=>⟨fun _ _=>DD⟩
 repeat first|refine aa ?_ |intro
 refine ag rfl (Cl (Ae x z) (x:=x) (y:=39) (z:=z) (fun _=>FQ x z) (p:=none) (n:=0) (cap:=0) (j:=0) (most:=0) rfl (Nat.le_refl _) (r:=⟨fun _ _=>Nat.le_refl _⟩)) ?_
 intro ⟨⟨wo,nn⟩,d,s,t,e⟩
 dsimp only
 repeat first|refine aa ?_ |intro
 refine ag rfl (MA hT) ?_
 intro _
 repeat first|refine aa ?_ |intro
 refine ag rfl (Ij (by omega) out wt fR port fl lK tick pT) ?_
 intro ⟨⟨q,b⟩,hU,lU⟩
 obtain⟨o,ho,wI,rfl,ma,nh⟩:=Xd (x:=x) (z:=z) lU (by split<;>simp)
 rw[wI]
 dsimp only at hU ⊢
 clear wI lU
 have oY:=ho.c.n
 have Tn:=ho.n4
 repeat first|refine aa ?_ |intro
 refine ff (γ:=Nat×bm) (fun g=>g.1≤o.c.n∧B1 o g.1 g.2) (fun g=>[(2,.slice pq ps.length cq),(7,.pointer wo),(9,.slice q.1 o.b.length q.2),(10,.int .i64 (g.1:Int))]) (fun g=>Obj wo 39 (dL nn o.c none 0 0 0 (none,0) 0 o.c.n d s t e 0)*(cM nn o.c g.2*(ao 5 1 q.1 o.b.length q.2 (aA o.b)*ew o.c.n d s t e F))) (fun g=>o.c.n-g.1) (0,dI o.c) ⟨Nat.zero_le _,Hd ho⟩ ⟨rfl,rfl,rfl,rfl,trivial⟩ (U.sat (av)) ?_
 intro ⟨i,n⟩ ⟨hi,h1⟩
 dsimp only at hi h1 ⊢
 by_cases bJ:i<o.c.n
 ·repeat first|refine aa ?_ |intro
  obtain⟨g1,g2⟩:=He h1 bJ (by omega)
  rw[nh i bJ]at g1 g2
  refine ag rfl (Spec.pre (vi (c:=o.c) (n:=n) (w:=i) (out:=true) (q:=q.1) (l:=o.b) (cap:=q.2) (tick:=(i:Int)) (F:=ao 5 1 q.1 o.b.length q.2 (aA o.b)*(Obj wo 39 (dL nn o.c none 0 0 0 (none,0) 0 o.c.n d s t e 0)*ew o.c.n d s t e F)) (by omega) h1.safe.len bJ) (av)) ?_
  intro _
  rw[g1]
  repeat first|refine aa ?_ |intro
  exact cT (i+1,_) ⟨bJ,g2⟩ (by dsimp only;omega) ⟨rfl,rfl,rfl,rfl,trivial⟩ (U.sat (av))
 have e:i=o.c.n:=by omega
 subst e
 repeat first|refine aa ?_ |intro
 have h2:=PN h1 ho
 clear h1
 refine yl (γ:=bm) (fun n=>∃i,i≤600∧B2 o i n) (fun _=>[(2,.slice pq ps.length cq),(7,.pointer wo),(9,.slice q.1 o.b.length q.2)]) (fun n=>Obj wo 39 (dL nn o.c none 0 0 0 (none,0) 0 o.c.n d s t e 0)*(cM nn o.c n*(ao 5 1 q.1 o.b.length q.2 (aA o.b)*ew o.c.n d s t e F))) ?_ ?_
 ·refine ff (γ:=Nat×bm) (fun g=>g.1≤ps.length∧g.1≤600∧B2 o g.1 g.2) (fun g=>[(2,.slice pq ps.length cq),(7,.pointer wo),(9,.slice q.1 o.b.length q.2),(11,.int .i64 (g.1:Int))]) (fun g=>Obj wo 39 (dL nn o.c none 0 0 0 (none,0) 0 o.c.n d s t e 0)*(cM nn o.c g.2*(ao 5 1 q.1 o.b.length q.2 (aA o.b)*ew o.c.n d s t e F))) (fun g=>ps.length-g.1) (0,n) ⟨Nat.zero_le _,Nat.zero_le _,h2⟩ ⟨rfl,rfl,rfl,rfl,trivial⟩ (U.sat (av)) ?_
  clear h2 hi bJ
  intro ⟨i,n⟩ ⟨hi,wq,h2⟩
  dsimp only at hi wq h2 ⊢
  by_cases bJ:i<ps.length∧i<600
  ·obtain⟨bJ,hi7⟩:=bJ
   have uw:=se (ps.getD i 0) (m:=o.c.n) (by omega) (by omega)
   have FB:=mr (ps.getD i 0) (m:=o.c.n) (by omega)
   have hz:0≤IntKind.u64.wrap (ps.getD i 0):=by rw[IntKind.wrap_u64];omega
   rw[Int.tmod_eq_emod_of_nonneg hz]at uw
   repeat first|refine aa ?_ |intro
   refine jD 17 rfl (by kernel_rfl) rfl rfl ?_
   repeat(refine cV ?_)
   rw[uw]
   obtain⟨K,k1,k2⟩:=h2.safe
   obtain⟨G,hG⟩:=h2.one
   refine ag rfl (Spec.pre (Gy (pn:=nn) (w:=um (ps.getD i 0) o.c.n) (F:=ao 5 1 q.1 o.b.length q.2 (aA o.b)*(Obj wo 39 (dL nn o.c none 0 0 0 (none,0) 0 o.c.n d s t e 0)*ew o.c.n d s t e F)) hT ho.c k2 (by omega) (by omega) FB (hG.wk _ FB).aX) (av)) ?_
   intro _
   repeat first|refine aa ?_ |intro
   exact cT (i+1,_) ⟨bJ,by omega,PO ho h2 (by omega) FB⟩ (by dsimp only;omega) ⟨rfl,rfl,rfl,rfl,trivial⟩ (U.sat (av))
  by_cases zq:i<ps.length
  ·have h6:¬i<600:=fun q=>bJ ⟨zq,q⟩
   repeat first|refine aa ?_ |intro
   exact ei n ⟨i,wq,h2⟩ ⟨rfl,rfl,rfl,trivial⟩ (U.sat (av))
  ·repeat first|refine aa ?_ |intro
   exact ei n ⟨i,wq,h2⟩ ⟨rfl,rfl,rfl,trivial⟩ (U.sat (av))
 clear h2 hi bJ
 intro n ⟨i,wq,h2⟩
 repeat first|refine aa ?_ |intro
 have h3:Cf o 0 n []:=⟨⟨⟨h2.one,by obtain⟨K,k1,k2⟩:=h2.safe;exact⟨K,by omega,k2⟩,h2.act⟩,fun v hv=>by omega⟩,fun q=>by omega⟩
 clear h2 wq
 refine ff (γ:=Nat×bm×List UInt8) (fun g=>g.1≤o.c.n∧Cf o g.1 g.2.1 g.2.2) (fun g=>[(2,.slice pq ps.length cq),(7,.pointer wo),(9,.slice q.1 o.b.length q.2),(12,.string (bs g.2.2)),(13,.int .i64 (g.1:Int))]) (fun g=>Obj wo 39 (dL nn o.c none 0 0 0 (none,0) 0 o.c.n d s t e 0)*(cM nn o.c g.2.1*(ao 5 1 q.1 o.b.length q.2 (aA o.b)*ew o.c.n d s t e F))) (fun g=>o.c.n-g.1) (0,n,[]) ⟨Nat.zero_le _,h3⟩ ⟨rfl,rfl,rfl,rfl,rfl,trivial⟩ (U.sat (av)) ?_
 clear h3
 intro ⟨i,n,u⟩ ⟨hi,h3⟩
 dsimp only at hi h3 ⊢
 by_cases bJ:i<o.c.n
 ·iterate 16 refine uA ?_
  refine kN (γ:=bm) (fun n2=>B3 o (i+1) (600+40*(i+1)) n2∧(0<i→u=(n2.wk.getD 0 ax).cj)) (fun _=>[(2,.slice pq ps.length cq),(7,.pointer wo),(9,.slice q.1 o.b.length q.2),(12,.string (bs u)),(13,.int .i64 (i:Int)),(100,.bool false)]) (fun n2=>Obj wo 39 (dL nn o.c none 0 0 0 (none,0) 0 o.c.n d s t e 0)*(cM nn o.c n2*(ao 5 1 q.1 o.b.length q.2 (aA o.b)*ew o.c.n d s t e F))) ?_ ?_
  ·cases hf:(n.wk.getD i ax).frame with
   |none=>
    have hb:(n.wk.getD i ax).busy=false:=by
     obtain⟨G,hG⟩:=h3.b.two.one
     unfold aR.busy
     rw[hf,(hG.wk i bJ).aX];rfl
    repeat first|refine aa ?_ |intro
    refine ag rfl (Spec.pre (yi (pn:=nn) (c:=o.c) (n:=n) (w:=i) (F:=ao 5 1 q.1 o.b.length q.2 (aA o.b)*(Obj wo 39 (dL nn o.c none 0 0 0 (none,0) 0 o.c.n d s t e 0)*ew o.c.n d s t e F)) bJ) (av)) ?_
    intro _
    rw[hb]
    repeat first|refine aa ?_ |intro
    exact ei n ⟨(PS h3.b hf).more (by omega),h3.l⟩ ⟨rfl,rfl,rfl,rfl,rfl,rfl,trivial⟩ (U.sat (av))
   |some f=>
    have hb:(n.wk.getD i ax).busy=true:=by
     unfold aR.busy
     rw[hf];rfl
    obtain⟨m,n2,m1,m2,m3,m4,m5,K,k1,k2⟩:=PR ho h3.b bJ (by omega) hf
    repeat first|refine aa ?_ |intro
    refine ag rfl (Spec.pre (yi (pn:=nn) (c:=o.c) (n:=n) (w:=i) (F:=ao 5 1 q.1 o.b.length q.2 (aA o.b)*(Obj wo 39 (dL nn o.c none 0 0 0 (none,0) 0 o.c.n d s t e 0)*ew o.c.n d s t e F)) bJ) (av)) ?_
    intro _
    rw[hb]
    repeat first|refine aa ?_ |intro
    refine ag rfl (Spec.pre (vB (w:=i) (nn:=nn) (jp:=none) (jn:=0) (jc:=0) (evn:=0) (wn:=o.c.n) (next:=0) (clock:=0) (ev:=(none,0)) (d:=d) (s:=s) (t:=t) (e:=e) (F:=ao 5 1 q.1 o.b.length q.2 (aA o.b)*ew o.c.n d s t e F) hT ho.c k2 (by omega) bJ (by omega) (by omega) m2 m3) (av)) ?_
    intro _
    repeat first|refine aa ?_ |intro
    refine ei n2 ⟨m4.more (by omega),fun h0=> ?_⟩ ⟨rfl,rfl,rfl,rfl,rfl,rfl,trivial⟩ (U.sat (av))
    rw[m5 0 (by omega)]
    exact h3.l h0
  intro n2 ⟨q1,q2⟩
  obtain⟨t1,t2,t3,t4⟩:=PT q1 bJ (Nat.lt_succ_self i)
  have et:dX n2 i=((n2.wk.getD i ax).cj,0,true):=by
   unfold dX
   rw[if_pos t1,t2]
  repeat first|refine aa ?_ |intro
  refine ag rfl (Spec.pre (vF (pn:=nn) (c:=o.c) (n:=n2) (w:=i) (F:=ao 5 1 q.1 o.b.length q.2 (aA o.b)*(Obj wo 39 (dL nn o.c none 0 0 0 (none,0) 0 o.c.n d s t e 0)*ew o.c.n d s t e F)) bJ (by omega)) (av)) ?_
  intro a
  rw[et]
  dsimp only
  have hr:Cf o (i+1) n2 (n2.wk.getD i ax).cj:=⟨q1,fun _=>t4⟩
  generalize (n2.wk.getD i ax).cj=tf at*
  repeat first|refine aa ?_ |intro
  rename_i px
  by_cases h0:i=0
  ·subst h0
   repeat first|refine aa ?_ |intro
   rw[show decide (tf=tf)=true from decide_eq_true rfl]
   repeat first|refine aa ?_ |intro
   exact cT (0+1,n2,tf) ⟨bJ,hr⟩ (by dsimp only;omega) ⟨rfl,rfl,rfl,rfl,rfl,trivial⟩ (U.sat (av))
  ·have e:u=tf:=(q2 (by omega)).trans t4.symm
   subst e
   rw[show decide ((i:Int)=0)=false from decide_eq_false (by omega)]
   repeat first|refine aa ?_ |intro
   rw[show decide (u=u)=true from decide_eq_true rfl]
   repeat first|refine aa ?_ |intro
   exact cT (i+1,n2,u) ⟨bJ,hr⟩ (by dsimp only;omega) ⟨rfl,rfl,rfl,rfl,rfl,trivial⟩ (U.sat (av))
 have e:i=o.c.n:=by omega
 subst e
 repeat first|refine aa ?_ |intro
 obtain⟨⟨b,b1,b2⟩,b3,b4⟩:=PQ (w:=o.c.n-1) ho h3.b (by omega) (by rw[nh _ (by omega),ma])
 refine ag rfl (Spec.pre (AX (pn:=nn) (c:=o.c) (n:=n) (F:=ao 5 1 q.1 o.b.length q.2 (aA o.b)*(Obj wo 39 (dL nn o.c none 0 0 0 (none,0) 0 o.c.n d s t e 0)*ew o.c.n d s t e F)) ho.c b3.pl) (av)) ?_
 intro a
 rw[b1]
 have eb:nu [b]=[.int .i64 (b.ar.proto:Int),.int .u32 (b.ar.addr:Int),.int .u16 (b.ar.port:Int),.int .i64 (b.port:Int),.int .i64 (b.pA:Int),.int .i64 (b.seen:Int)]:=rfl
 rw[eb,b2,ma,show([b]:List _).length=1 from rfl]
 haveI:Pos 1:=⟨by decide⟩
 haveI:eK [.int .i64 (b.ar.proto:Int),.int .u32 (b.ar.addr:Int),.int .u16 (b.ar.port:Int),.int .i64 (b.port:Int),.int .i64 (b.pA:Int),.int .i64 ((o.c.n-1:Nat):Int)] 0 6 5 (.int .i64 ((o.c.n-1:Nat):Int)) (0<1):=⟨fun _=>rfl⟩
 have hnm:IntKind.i64.wrap ((o.c.n:Int)-1)=((o.c.n-1:Nat):Int):=by rw[IntKind.wrap_i64];omega
 repeat first|refine aa ?_ |intro
 refine aL 99 (ao 55 6 a.1 1 a.2 [.int .i64 (b.ar.proto:Int),.int .u32 (b.ar.addr:Int),.int .u16 (b.ar.port:Int),.int .i64 (b.port:Int),.int .i64 (b.pA:Int),.int .i64 ((o.c.n-1:Nat):Int)]*(Obj wo 39 (dL nn o.c none 0 0 0 (none,0) 0 o.c.n d s t e 0)*1)) rfl rfl rfl ?_
 repeat(first|refine aq ?_ |refine eD ?_)
 refine aI rfl rfl rfl rfl rfl (Spec.pre (FR (nn:=nn) (wo:=wo) (jp:=none) (jn:=0) (jc:=0) (evn:=0) (wn:=o.c.n) (next:=0) (clock:=0) (ev:=(none,0)) (d:=d) (s:=s) (t:=t) (e:=e) (F:=ao 55 6 a.1 1 a.2 [.int .i64 (b.ar.proto:Int),.int .u32 (b.ar.addr:Int),.int .u16 (b.ar.port:Int),.int .i64 (b.port:Int),.int .i64 (b.pA:Int),.int .i64 ((o.c.n-1:Nat):Int)]*(ao 5 1 q.1 o.b.length q.2 (aA o.b)*ew o.c.n d s t e F)) ho.c b3 b4) (av)) (fun _=>av) ?_
 intro _
 repeat(first|refine aq ?_ |refine eD ?_)
 repeat first|refine aa ?_ |intro
 exact ae (aw rfl rfl () rfl (U.sat (av)))
end
section
open Go.ChangeShapes Go.WideShapes Go.ChangeAt Go.RowKit Go.Deep
section
variable {P:Program} {W:World} {r:Reach} {base:Nat}
theorem Co {t:TypeId}{v:Value}{ts:List TypeId}(hu:(∃fs,P.underlying t=some (.struct fs))∨∃n e,P.underlying t=some (.array n e))(Dk:P.cellTypes P.depth t=some ts)(dW:P.cellsOf t=ts.length)(h:Value.okWide P W r base t v):
  ∃cs:List Value,v= .agg cs.toArray∧cs.length=ts.length∧∀(i:Nat) (u:TypeId),ts[i]? =some u→∃x,cs[i]? =some x∧Cell.okWide P W r base u x:=by
 have h':∃cs,v= .agg cs∧cs.size=P.cellsOf t∧Row.okWide P W r base t cs:=by
  unfold Value.okWide at h
  rcases hu with ⟨fs,hu⟩|⟨n,e,hu⟩<;>rw[hu]at h<;>exact h
 obtain⟨cs,rfl,hs,ts',h1,_,h2⟩:=h'
 rw[Dk]at h1
 cases h1
 refine⟨cs.toList,by simp,by simp[hs,dW],fun i u hi=> ?_⟩
 have ck:=(List.getElem?_eq_some_iff.1 hi).1
 have I9:i<cs.size:=by rw[hs,dW];exact ck
 obtain⟨u',h3,h4⟩:=h2 i cs[i] (Array.getElem?_eq_getElem I9)
 rw[Nat.mod_eq_of_lt ck,hi]at h3
 cases h3
 exact⟨cs[i],by simp[I9],h4⟩
theorem Ee {u:TypeId}{k:IntKind}{x:Value}(hu:P.underlying u=some (.int k))(h:Cell.okWide P W r base u x):∃n,x= .int k n∧k.has n:=by
 unfold Cell.okWide Cell.ok at h
 rw[hu]at h
 cases x<;>simp only at h
 obtain⟨rfl,h⟩:=h
 exact⟨_,rfl,h⟩
end
end
section
open Go.ChangeShapes Go.WideShapes Go.ChangeAt Go.RowKit Go.Deep
inductive kP where
 |i64|bool|u8|u16|u32|bytes
def kP.At (W:World)(v:Value):kP→Prop
 | .i64=>∃n:Int,v= .int .i64 n∧ -9223372036854775808≤n∧n≤9223372036854775807
 | .bool=>∃b,v= .bool b
 | .u8=>∃n:Nat,v= .int .u8 (n:Int)∧n<256
 | .u16=>∃n:Nat,v= .int .u16 (n:Int)∧n<65536
 | .u32=>∃n:Nat,v= .int .u32 (n:Int)∧n<4294967296
 | .bytes=>∃(p:Option Addr) (l:List UInt8) (c:Nat),v= .slice p l.length c∧Ro W p l.length (aA l)∧l.length≤c∧c≤140737488355328
def zY (P:Program)(g:TypeId→Option (List kP)):List Field→Nat→Option (List kP)
 |[],_=>some []
 |f::fs,o=>if f.offset=o then
   match g f.type with
   |some l=>if P.cellsOf f.type=l.length then
     match zY P g fs (o+l.length)with
     |some r=>some (l++r)
     |none=>none
    else none
   |none=>none
  else none
def Ei (P:Program):Nat→TypeId→Option (List kP)
 |0,_=>none
 |n+1,t=>match P.underlying t with
  |some .bool=>some [.bool]
  |some (.int .i64)=>some [.i64]
  |some (.int .u8)=>some [.u8]
  |some (.int .u16)=>some [.u16]
  |some (.int .u32)=>some [.u32]
  |some (.slice e)=>match P.underlying e with
   |some (.int .u8)=>if P.cellsOf e=1∧P.bytesOf e=1 then some [.bytes]else none
   |_=>none
  |some (.struct fs)=>match zY P (Ei P n) fs.toList 0 with
   |some ls=>if P.cellsOf t=ls.length then some ls else none
   |none=>none
  |_=>none
section
variable {H:Type} {enc:TypeId×Value→H} {P:Program} {W:World} {base:Nat} {held:Bool}
def sE (W:World)(ls:List kP)(cs:List Value):Prop:=cs.length=ls.length∧∀(i:Nat) (l:kP),ls[i]? =some l→∃v,cs[i]? =some v∧l.At W v
theorem sE.one {l:kP}{v:Value}(h:l.At W v):sE W [l] [v]:=⟨rfl,fun i l' hl=>by
 cases i with
 |zero=>
  cases hl
  exact⟨v,rfl,h⟩
 |succ i=>simp at hl⟩
theorem sr {k:IntKind}{n:Int}(h:(Lit.int k n).wf=true):k.min≤n∧n≤k.max:=by
 have h':(decide (k.min≤n)&&decide (n≤k.max))=true:=h
 rwa[Bool.and_eq_true,decide_eq_true_eq,decide_eq_true_eq]at h'
def oJ (P:Program)(t:TypeId)(d:DataW H):Prop:=∀n∈d.weights P t,n≤140737488355328
theorem Zx {t e:TypeId}{a b:List (DataW H)}(ht:P.underlying t=some (.slice e)):DataW.weights P t (.slice a b)=(a.length+b.length)*P.bytesOf e::(DataW.weightsAll P e a++DataW.weightsAll P e b):=by
 unfold DataW.weights
 rw[ht]
theorem oJ.cap {t e:TypeId}{a b:List (DataW H)}(h:oJ P t (.slice a b))(ht:P.underlying t=some (.slice e))(hb:0<P.bytesOf e):a.length+b.length≤140737488355328:=by
 have:=h ((a.length+b.length)*P.bytesOf e) (by rw[Zx ht];exact List.mem_cons_self)
 exact Nat.le_trans (Nat.le_mul_of_pos_right _ hb) this
theorem oJ.field {t:TypeId}{fs:Array Field}{ps:List (DataW H)}(h:oJ P t (.agg ps))(ht:P.underlying t=some (.struct fs)){i:Nat}{f:Field}{d:DataW H}(hf:fs[i]? =some f)(hd:ps[i]? =some d):oJ P f.type d:=fun n hn=>
 h n (by
  unfold DataW.weights
  rw[ht]
  exact DataW.weights_mem_each (j:=i) (by rw[List.getElem?_map];simp[hf]) hd n hn)
theorem H4 {ts:List TypeId}{ds:List (DataW H)}(h:(DataW.weightsEach P ts ds).all (· ≤reachBytes)=true){j:Nat}{t:TypeId}{d:DataW H}(ht:ts[j]? =some t)(hd:ds[j]? =some d):oJ P t d:=fun n hn=>by
 have:=List.all_eq_true.1 h n (DataW.weights_mem_each ht hd n hn)
 exact Nat.le_trans (of_decide_eq_true this) (by decide)
theorem Ql {t e:TypeId}{fuel:Nat}{cs:List Value}{x:DataW H×List MemPlace}(ht:P.underlying t=some (.slice e))(he:P.underlying e=some (.int .u8))(hc:P.cellsOf e=1)(hb:P.bytesOf e=1)(hw:oJ P t x.1)
  (h:DataW.trod enc P W base (fun _=>true) held fuel t cs=some x):∃(p:Option Addr) (l:List UInt8) (c:Nat),cs=[.slice p l.length c]∧Ro W p l.length (aA l)∧l.length≤c∧c≤140737488355328:=by
 rcases open_ints ht he hc h with ⟨h0,_⟩|⟨a,len,cap,zs,h0,_,hl,hm,hz,hx,sZ,Jw⟩
 ·exact⟨none,[],0,h0,⟨fun i v hv=>by simp[aA]at hv,fun h=>by simp at h⟩,by simp,by decide⟩
 ·simp only[if_true]at hz
  have SE:cap≤140737488355328:=by
   rw[hx]at hw
   have:=hw.cap ht (by rw[hb];decide)
   simp only[lits,List.length_map,List.length_take,List.length_drop]at this
   omega
  have hlen:((zs.take len).map fun z=>UInt8.ofNat z.toNat).length=len:=by rw[List.length_map,List.length_take];omega
  refine⟨some a,(zs.take len).map fun z=>UInt8.ofNat z.toNat,cap,by rw[hlen];exact h0,⟨fun i v hv=> ?_,fun _=>by simp⟩,by rw[hlen];exact hl,SE⟩
  unfold aA at hv
  rw[List.map_map,List.getElem?_map,List.getElem?_take]at hv
  split at hv
  ·rename_i hi
   have ck:i<zs.length:=by omega
   rw[List.getElem?_eq_getElem ck]at hv
   simp only[Option.map_some,Option.some.injEq,Function.comp]at hv
   subst hv
   have hw:=sr (Jw _ (List.getElem_mem ck))
   have h0:(0:Int)≤zs[i]:=hw.1
   have h1:zs[i]≤255:=hw.2
   have:=sZ i ck
   rw[List.getD_eq_getElem?_getD,List.getElem?_eq_getElem ck,Option.getD_some]at this
   refine⟨a.add i,rfl,World.block_lt_of_cell? _ _ this,?_⟩
   rw[this,UInt8.toNat_ofNat',Nat.mod_eq_of_lt (by omega),Int.toNat_of_nonneg h0]
  ·simp at hv
theorem JH {g:TypeId→Option (List kP)}{cs:List Value}{n:Nat}(hg:∀t ls c x,g t=some ls→DataW.trod enc P W base (fun _=>true) held n t c=some x→oJ P t x.1→sE W ls c):
  ∀(fs:List Field) (o:Nat) (r:List kP),zY P g fs o=some r→(∀f∈fs,∃x,DataW.trod enc P W base (fun _=>true) held n f.type ((cs.drop f.offset).take (P.cellsOf f.type))=some x∧oJ P f.type x.1)→∀(i:Nat) (l:kP),r[i]? =some l→∃v,cs[o+i]? =some v∧l.At W v
 |[],o,r,h,_=>by
  cases h
  intro i l hl
  simp at hl
 |f::fs,o,r,h,hf=>by
  unfold zY at h
  split at h
  ·rename_i ho
   split at h
   ·rename_i l1 wC
    split at h
    ·rename_i hk
     split at h
     ·rename_i r1 DY
      cases h
      obtain⟨x,hx,gw⟩:=hf f List.mem_cons_self
      obtain⟨hlen,zh⟩:=hg _ _ _ _ wC hx gw
      intro i l hl
      rcases Nat.lt_or_ge i l1.length with hi|hi
      ·rw[List.getElem?_append_left hi]at hl
       obtain⟨v,hv,hA⟩:=zh i l hl
       rw[List.getElem?_take,hk,if_pos hi,List.getElem?_drop,ho]at hv
       exact⟨v,hv,hA⟩
      ·rw[List.getElem?_append_right hi]at hl
       obtain⟨v,hv,hA⟩:=JH hg fs _ _ DY (fun f hm=>hf f (List.mem_cons_of_mem _ hm)) _ _ hl
       exact⟨v,by rw[←hv];congr 1;omega,hA⟩
     ·cases h
    ·cases h
   ·cases h
  ·cases h
theorem Ej:∀(m:Nat) (t:TypeId) (ls:List kP) (n:Nat) (cs:List Value) (x:DataW H×List MemPlace),Ei P m t=some ls→DataW.trod enc P W base (fun _=>true) held n t cs=some x→oJ P t x.1→sE W ls cs
 |0,t,ls,n,cs,x,h,_,_=>by cases h
 |m+1,t,ls,n,cs,x,h,hx,gw=>by
  unfold Ei at h
  split at h
  ·rename_i ht
   cases h
   obtain⟨b,rfl,_⟩:=DataW.trod_bool ht hx
   exact .one ⟨b,rfl⟩
  ·rename_i ht
   cases h
   obtain⟨z,rfl,_,hw⟩:=DataW.trod_int ht hx
   have:=sr hw
   exact .one ⟨z,rfl,this.1,this.2⟩
  ·rename_i ht
   cases h
   obtain⟨z,rfl,_,hw⟩:=DataW.trod_int ht hx
   have h0:(0:Int)≤z:=(sr hw).1
   have h1:z≤255:=(sr hw).2
   exact .one ⟨z.toNat,by rw[Int.toNat_of_nonneg h0],by omega⟩
  ·rename_i ht
   cases h
   obtain⟨z,rfl,_,hw⟩:=DataW.trod_int ht hx
   have h0:(0:Int)≤z:=(sr hw).1
   have h1:z≤65535:=(sr hw).2
   exact .one ⟨z.toNat,by rw[Int.toNat_of_nonneg h0],by omega⟩
  ·rename_i ht
   cases h
   obtain⟨z,rfl,_,hw⟩:=DataW.trod_int ht hx
   have h0:(0:Int)≤z:=(sr hw).1
   have h1:z≤4294967295:=(sr hw).2
   exact .one ⟨z.toNat,by rw[Int.toNat_of_nonneg h0],by omega⟩
  ·rename_i e ht
   split at h
   ·rename_i he
    split at h
    ·rename_i hc
     cases h
     obtain⟨p,l,c,rfl,h1,h2,h3⟩:=Ql ht he hc.1 hc.2 gw hx
     exact .one ⟨p,l,c,rfl,h1,h2,h3⟩
    ·cases h
   ·cases h
  ·rename_i fs ht
   split at h
   ·rename_i ls' Td
    split at h
    ·rename_i hc
     cases h
     obtain⟨ys,n',_,zR,hl,hy,hf⟩:=DataW.trod_struct ht hx
     rw[zR]at gw
     refine⟨by rw[hl,hc],fun i l hi=> ?_⟩
     have:=JH (cs:=cs) (n:=n') (fun t ls c x=>Ej m t ls n' c x) fs.toList 0 _ Td (fun f hm=>by
      obtain⟨j,hj,e⟩:=List.getElem_of_mem hm
      have rL:j<fs.size:=by simpa using hj
      have e':fs[j]? =some f:=by rw[Array.getElem?_eq_getElem rL,←e];simp
      have:=hf j f e'
      rw[List.getElem?_eq_getElem (by omega)]at this
      exact⟨_,this,gw.field ht e' (by rw[List.getElem?_map,List.getElem?_eq_getElem (by omega)];rfl)⟩) i l hi
     rwa[Nat.zero_add]at this
    ·cases h
   ·cases h
  ·cases h
end
end
section
open Go.ChangeShapes Go.WideShapes Go.ChangeAt Go.RowKit Go.Deep
section
variable {W:World}
theorem pZ {l:kP}{ls:List kP}{vs:List Value}(h:sE W (l::ls) vs):∃v AP,vs=v::AP∧l.At W v∧sE W ls AP:=by
 obtain⟨hl,ha⟩:=h
 match vs,hl with
 |v::AP,hl=>
  refine⟨v,AP,rfl,?_,by simpa using hl,fun i l' hi=> ?_⟩
  ·obtain⟨u,h1,h2⟩:=ha 0 l rfl
   cases h1
   exact h2
  ·obtain⟨u,h1,h2⟩:=ha (i+1) l' hi
   exact⟨u,h1,h2⟩
def Fg:List kP:=[.bool,.i64,.i64,.i64,.i64,.bytes,.i64,.u8,.i64]
theorem LN {vs:List Value}(h:sE W Fg vs):∃(out:Bool) (wt fR port fl lK tick:Int) (pT:Nat) (p:Option Addr) (l:List UInt8) (c:Nat),vs=[.bool out,.int .i64 wt,.int .i64 fR,.int .i64 port,.int .i64 fl,.slice p l.length c,.int .i64 lK,.int .u8 (pT:Int),.int .i64 tick]∧Ro W p l.length (aA l)∧l.length≤c∧c≤140737488355328:=by
 obtain⟨_,_,rfl,⟨b0,rfl⟩,h1⟩:=pZ h
 obtain⟨_,_,rfl,⟨z1,rfl,_⟩,h2⟩:=pZ h1
 obtain⟨_,_,rfl,⟨z2,rfl,_⟩,h3⟩:=pZ h2
 obtain⟨_,_,rfl,⟨z3,rfl,_⟩,h4⟩:=pZ h3
 obtain⟨_,_,rfl,⟨z4,rfl,_⟩,h5⟩:=pZ h4
 obtain⟨_,_,rfl,⟨p,l,c,rfl,r,k,m⟩,h6⟩:=pZ h5
 obtain⟨_,_,rfl,⟨z6,rfl,_⟩,h7⟩:=pZ h6
 obtain⟨_,_,rfl,⟨z7,rfl,_⟩,h8⟩:=pZ h7
 obtain⟨_,_,rfl,⟨z8,rfl,_⟩,h9⟩:=pZ h8
 obtain rfl:=List.length_eq_zero_iff.1 h9.1
 exact⟨b0,z1,z2,z3,z4,z6,z8,z7,p,l,c,rfl,r,k,m⟩
end
section
variable {P:Program} {W:World} {r:Reach} {base:Nat}
theorem Ha {t e:TypeId}{n:Nat}{v:Value}(hu:P.underlying t=some (.array n e))(Dk:P.cellTypes P.depth t=some [e,e,e])(dW:P.cellsOf t=3)(hi:P.underlying e=some (.int .i64))(h:Value.okWide P W r base t v):∃x y z:Int,v= .agg #[.int .i64 x,.int .i64 y,.int .i64 z]:=by
 obtain⟨cs,rfl,hl,hc⟩:=Co (.inr ⟨n,e,hu⟩) Dk dW h
 match cs,hl with
 |[x0,x1,x2],_=>
  obtain⟨y0,e0,g0⟩:=hc 0 e rfl
  obtain⟨y1,e1,g1⟩:=hc 1 e rfl
  obtain⟨y2,e2,g2⟩:=hc 2 e rfl
  cases e0;cases e1;cases e2
  obtain⟨n0,rfl,_⟩:=Ee hi g0
  obtain⟨n1,rfl,_⟩:=Ee hi g1
  obtain⟨n2,rfl,_⟩:=Ee hi g2
  exact⟨n0,n1,n2,rfl⟩
end
end
section
section
variable {o:OF} {G:Gh} {n:bm} {w K B i:Nat}
structure S2 (o:OF)(i:Nat)(n:bm):Prop where
 one:∃G,dM o G n
 safe:∃K,K≤i∧Safe o.c K 3 n
 act:lA o n 0
 idle:∀v,1≤v→v<o.c.n→(n.wk.getD v ax).frame=none∧(n.wk.getD v ax).any=false
theorem XA (ho:o.Ok)(hb:o.b.length≤140737488355328):(fp (dI o.c) 0 true o.b (o.tk 0:Int)).2=0∧S2 o 0 (fp (dI o.c) 0 true o.b (o.tk 0:Int)).1:=by
 have hc:=ho.c.n
 have h0:=Hd ho
 obtain⟨h1,h2⟩:=He h0 (by omega) hb
 refine⟨h1,⟨_,h2.one⟩,⟨0,Nat.le_refl _,Ff h2.safe 2⟩,h2.act 0 (by omega),fun v hv hn=>⟨h2.idle v (by omega) hn,?_⟩⟩
 unfold fp
 split
 ·rw[ve _ hn];rfl
 ·show(((dI o.c).wk.set 0 _).getD v ax).any=false
  rw[ui (by omega),ve _ hn];rfl
theorem Xz (ho:o.Ok)(h:S2 o i n)(hi:i<65000):S2 o (i+1) (de o.c 0 n).1:=by
 have hc:=ho.c.n
 obtain⟨⟨G,h1⟩,⟨K,h2,h3⟩,h4,h5⟩:=h
 have hw:0<o.c.n:=by omega
 obtain⟨G',g1,_⟩:=KP ho h1 hw
 obtain⟨K',k1,k2⟩:=h3.HN ho.c (by omega) hw (h1.wk 0 hw).aX
 exact⟨⟨G',g1⟩,⟨K',by omega,k2⟩,G1 ho h1 hw h4,fun v hv hn=>by rw[CF (by omega)];exact h5 v hv hn⟩
structure S3 (o:OF)(i:Nat)(n:bm):Prop where
 one:∃G,dM o G n
 safe:∃K,K≤i∧Safe o.c K 4 n
 act:lA o n 0∧lA o n 1
 idle:∀v,2≤v→v<o.c.n→(n.wk.getD v ax).frame=none
theorem XB (h:S2 o i n)(hn:1<o.c.n)(hb:o.b.length≤140737488355328):(fp n 1 true o.b (o.tk 1:Int)).2=0∧S3 o i (fp n 1 true o.b (o.tk 1:Int)).1∧∃f,((fp n 1 true o.b (o.tk 1:Int)).1.wk.getD 1 ax).frame=some f:=by
 obtain⟨⟨G,h1⟩,⟨K,h2,h3⟩,h4,h5⟩:=h
 obtain⟨i1,i2⟩:=h5 1 (Nat.le_refl _) hn
 have cu:G.fd 1=false:=by
  have:=(h1.wk 1 hn).ph
  rw[i1]at this
  rcases this with ⟨q,_⟩|⟨q,_⟩
  ·exact q
  ·rw[i2]at q;cases q
 have hi:(n.wk.getD 1 ax).busy=false:=by
  unfold aR.busy
  rw[i1,(h1.wk 1 hn).aX];rfl
 have e:fp n 1 true o.b (o.tk 1:Int)=(⟨n.sh,n.wk.set 1 (oN (n.wk.getD 1 ax) true o.b (o.tk 1:Int))⟩,0):=by
  unfold fp
  rw[if_neg (by rw[hi];decide)];rfl
 rw[e]
 have hw:(n.wk.set 1 (oN (n.wk.getD 1 ax) true o.b (o.tk 1:Int))).getD 1 ax=oN (n.wk.getD 1 ax) true o.b (o.tk 1:Int):=FJ (by rw[h1.wl];exact hn)
 refine⟨rfl,⟨⟨G,KL h1 hn i1 cu⟩,⟨K,h2,h3.begin hn hi true hb _⟩,⟨?_,fun q=> ?_⟩,fun v hv TX=> ?_⟩,nD true o.b (o.tk 1:Int),?_⟩
 ·unfold lA at h4 ⊢
  show((n.wk.set 1 _).getD 0 ax).frame=none→((n.wk.set 1 _).getD 0 ax).any=true
  rw[ui (by omega)];exact h4
 ·have q:((n.wk.set 1 (oN (n.wk.getD 1 ax) true o.b (o.tk 1:Int))).getD 1 ax).frame=none:=q
  rw[hw]at q;cases q
 ·show((n.wk.set 1 _).getD v ax).frame=none
  rw[ui (by omega)];exact(h5 v (by omega) TX).1
 ·show((n.wk.set 1 _).getD 1 ax).frame=_
  rw[hw];rfl
theorem LJ {f:aH}(ho:o.Ok)(h:S3 o i n)(qn:w<2)(hw:w<o.c.n)(hi:i+40≤60000)(hf:(n.wk.getD w ax).frame=some f):∃m n',m≤40∧ig o.c w m n n' true∧qI o.c w m n∧S3 o (i+40) n'∧(n'.wk.getD w ax).frame=none∧(∀v,v≠w→n'.wk.getD v ax=n.wk.getD v ax)∧∃K,K≤i∧Safe o.c K 4 n:=by
 obtain⟨⟨G,h1⟩,⟨K,h2,h3⟩,⟨h4,h6⟩,h5⟩:=h
 obtain⟨m,n',G',a1,a2,a3,a4,⟨a5,a6⟩,_⟩:=EE ho hw 39 n G f h1 hf Gx
 have tl:∀v,v≠w→n'.wk.getD v ax=n.wk.getD v ax:=fun v hv=>by
  rw[←a2.2.1];exact Fb hv m n
 have IK:∀v,lA o n v→lA o n' v:=fun v q=>by
  by_cases e:v=w
  ·subst e;exact fun _=>a6
  ·unfold lA at q ⊢
   rw[tl v e];exact q
 exact⟨m,n',by omega,a2,a3,⟨⟨G',a4⟩,⟨K+m,by omega,Safe.yS ho.c hw h3 (by omega) a2 a3⟩,⟨IK 0 h4,IK 1 h6⟩,fun v hv hn=>by rw[tl v (by omega)];exact h5 v hv hn⟩,a5,tl,K,h2,h3⟩
theorem XD (h:S3 o i n)(hn:1<o.c.n)(h0:(n.wk.getD 0 ax).frame=none)(h1:(n.wk.getD 1 ax).frame=none):(∀v,v<2→(n.wk.getD v ax).any=true∧(n.wk.getD v ax).iM=0∧(n.wk.getD v ax).cj.length≤o.b.length)∧(n.wk.getD 0 ax).cj=(n.wk.getD 1 ax).cj:=by
 obtain⟨⟨G,g1⟩,_,⟨h4,h6⟩,_⟩:=h
 obtain⟨e1,y,e2,e3,_⟩:=tC g1 (by omega) h0 (h4 h0)
 obtain⟨f1,y',f2,f3,_⟩:=tC g1 hn h1 (h6 h1)
 rw[e2]at f2
 cases f2
 refine⟨fun v hv=> ?_,e3.trans f3.symm⟩
 obtain rfl|rfl:v=0∨v=1:=by omega
 ·exact⟨h4 h0,e1,by rw[e3];exact Av⟩
 ·exact⟨h6 h1,f1,by rw[f3];exact Av⟩
theorem XC (ho:o.Ok)(h:S3 o i n)(hn:1<o.c.n)(h0:(n.wk.getD 0 ax).frame=none)(h1:(n.wk.getD 1 ax).frame=none)(ht:o.tk 1=o.top):(∃b,mJ o.c n.sh=[b]∧b.seen=o.top)∧vk o.c n∧∀kd x,kd<3→x<o.c.np→∃a,pY o.c n kd x=[a]∧(a=(1, -1)∨a=(3, -1)∨∃w,w<o.c.n∧a=(2,(w:Int))):=by
 obtain⟨⟨G,g1⟩,⟨K,h2,h3⟩,⟨h4,h6⟩,h5⟩:=h
 have iC:∀v,v<o.c.n→(n.wk.getD v ax).frame=none:=fun v hv=>by
  by_cases e0:v=0
  ·rw[e0];exact h0
  ·by_cases e1:v=1
   ·rw[e1];exact h1
   ·exact h5 v (by omega) hv
 obtain⟨e1,y,e2,e3,e4,e5⟩:=tC g1 hn h1 (h6 h1)
 refine⟨⟨_,KM ho g1 iC e2 e5,?_⟩,KO ho g1 h3,fun kd x bl hx=>KN ho g1 iC bl hx⟩
 obtain⟨z,_,_,_,_,_,q6,_⟩:=g1.sh.xk y e2
 show(bC n.sh (y:Int)).sn=o.top
 unfold bC
 rw[Int.toNat_natCast]
 omega
end
end
end Go.Proofs.YtakbmjoijcpdmaaGreatDoor
