/-
  A part of a proof, joined by a program (wip/bundle3.py).
-/
import Derived.Laws.BitsAllLaws
import Derived.Lib.ItoaNum
import Derived.Test.YtfkngchldmfpfaaGreatDoorG0
import Derived.Test.YtfkngchldmfpfaaGreatDoorG2
import Derived.Test.YtfkngchldmfpfaaGreatDoorG3
import Derived.Test.YtfkngchldmfpfaaGreatDoorG4
import Derived.Test.YtfkngchldmfpfaaGreatDoorG5
import Derived.Test.YtfkngchldmfpfaaGreatDoorG6
set_option linter.unusedVariables false
set_option linter.unusedSimpArgs false
namespace Go.Proofs.YtfkngchldmfpfaaGreatDoor
section
open Go.RowKit
theorem yX {i:Nat}(h:i<32):2^i<4294967296:=Nat.pow_lt_pow_of_lt (a:=2) (m:=32) (by decide) h
theorem yW {a b:Nat}(ha:a<4294967296)(hb:b<4294967296):a|||b<4294967296:=Nat.or_lt_two_pow (n:=32) ha hb
structure bM where
 kind:Nat:=0
 word:Nat:=0
 left:Nat:=0
 most:Nat:=0
 read:Bool:=false
 seen:Nat:=0
 words:List Nat:=[]
 parts:List (Nat×Nat):=[]
 bK:List Nat:=[]
 done:Bool:=false
 alike:Bool:=false
variable {m n:Nat} {ws:List Nat} {s:bM}
def fD (u most:Nat):List Nat:=(dD u).take most
def kf (ws:List Nat)(s:bM):List Nat×bM:=
 if s.read=true then
  if ws.getD s.word 0=s.seen then
   (ws.set s.word (mL s.seen (s.seen%4294967296|||ofBits (fD s.seen s.most))),{s with read:=false,bK:=(fD s.seen s.most).map (s.word*32+ ·),done:=true})
  else(ws,{s with read:=false})
 else if dD (ws.getD s.word 0)=[]then
  (ws,{s with seen:=ws.getD s.word 0,words:=s.words.set s.word (ws.getD s.word 0),word:=(s.word+1)%s.words.length,left:=s.left-1,done:=decide (s.left-1=0)})
 else(ws,{s with seen:=ws.getD s.word 0,read:=true})
def qJ (ws:List Nat)(s:bM):List Nat×bM:=
 if ws.getD s.word 0=s.words.getD s.word 0 then
  (ws,{s with word:=s.word+1,done:=decide (s.word+1=s.words.length),alike:=decide (s.word+1=s.words.length)})
 else(ws,{s with done:=true})
def lY (ws:List Nat)(s:bM):List Nat×bM:=
 match s.parts with
 |[]=>(ws,{s with done:=true})
 |(k,mask)::rest=>
  if s.read=true then
   if ws.getD k 0=s.seen then
    (ws.set k (mL s.seen (s.seen%4294967296&&& (18446744073709551615-mask))),{s with read:=false,parts:=rest,done:=decide (rest=[])})
   else(ws,{s with read:=false})
  else if ws.getD k 0&&& mask=0 then(ws,{s with seen:=ws.getD k 0,read:=false,parts:=rest,done:=decide (rest=[])})
  else(ws,{s with seen:=ws.getD k 0,read:=true})
def bp (ws:List Nat)(s:bM):List Nat×bM:=
 if s.done=true then(ws,s)else if s.kind=0 then kf ws s else if s.kind=1 then qJ ws s else lY ws s
structure bM.Ok (m:Nat)(s:bM):Prop where
 kind:s.kind=0∨s.kind=1∨s.kind=2
 seen:s.seen<18446744073709551616
 words:∀u∈s.words,u<18446744073709551616
 nq:s.kind=0→s.words.length=m∧s.word<m∧s.left≤m∧1≤s.most∧s.most≤32∧(s.done=false→1≤s.left)
 qK:s.kind=1→s.words.length=m∧s.word≤m∧(s.done=false→s.word<m)
 parts:∀p∈s.parts,p.1<m∧p.2<4294967296
 bK:s.bK.length≤32
structure ic (m:Nat)(ws:List Nat):Prop where
 len:ws.length=m
 pos:1≤m
 most:m≤32
 lt:∀u∈ws,u<18446744073709551616
theorem ic.get {m:Nat}{ws:List Nat}(h:ic m ws){i:Nat}(hi:i<m):ws[i]? =some (ws.getD i 0)∧ws.getD i 0<18446744073709551616:=by
 have pv:i<ws.length:=by rw[h.len];exact hi
 rw[List.getD_eq_getElem?_getD,List.getElem?_eq_getElem pv]
 exact⟨rfl,h.lt _ (List.getElem_mem pv)⟩
theorem xy (h:s.parts=[]):lY ws s=(ws,{s with done:=true}):=by
 cases s;simp at h;subst h;rfl
theorem xx {k mask:Nat}{rest:List (Nat×Nat)}(h:s.parts=(k,mask)::rest):lY ws s=
  if s.read=true then
   if ws.getD k 0=s.seen then
    (ws.set k (mL s.seen (s.seen%4294967296&&& (18446744073709551615-mask))),{s with read:=false,parts:=rest,done:=decide (rest=[])})
   else(ws,{s with read:=false})
  else if ws.getD k 0&&& mask=0 then(ws,{s with seen:=ws.getD k 0,read:=false,parts:=rest,done:=decide (rest=[])})
  else(ws,{s with seen:=ws.getD k 0,read:=true}):=by
 cases s;simp at h;subst h;rfl
def partAt (ps:List (Nat×Nat))(k:Nat):Option Nat:=ps.findIdx? fun p=>p.1==k
def E2 (o:Option Nat):Int:=match o with|some i=>(i:Int)|none=> -1
theorem W4 {ps:List (Nat×Nat)}{k c:Nat}(h:∀i,i<k→(ps.getD i (0,0)).1≠c)(hk:k<ps.length)(hc:(ps.getD k (0,0)).1=c):partAt ps c=some k:=by
 unfold partAt
 rw[List.findIdx?_eq_some_iff_getElem]
 have e:∀i (hi:i<ps.length),(ps.getD i (0,0))=ps[i]:=fun i hi=>by rw[List.getD_eq_getElem?_getD,List.getElem?_eq_getElem hi];rfl
 refine⟨hk,by rw[←e k hk];simpa using hc,fun j hj=> ?_⟩
 have:=h j hj
 rw[e j (by omega)]at this
 simpa using this
theorem W3 {ps:List (Nat×Nat)}{c:Nat}(h:∀i,i<ps.length→(ps.getD i (0,0)).1≠c):partAt ps c=none:=by
 unfold partAt
 rw[List.findIdx?_eq_none_iff]
 intro p hp
 obtain⟨i,hi,rfl⟩:=List.getElem_of_mem hp
 have:=h i hi
 rw[List.getD_eq_getElem?_getD,List.getElem?_eq_getElem hi]at this
 simpa using this
def ke (fr mo:Int)(m:Nat):bM:=
 {kind:=0,word:=(fr%18446744073709551616).toNat%m,left:=m,most:=(min (max mo 1) 32).toNat,words:=List.replicate m 0}
theorem Yx (fr mo:Int)(hm:1≤m):(ke fr mo m).Ok m where
 kind:= .inl rfl
 seen:=by simp[ke]
 words:=by simp[ke]
 nq:=fun _=>⟨by simp[ke],Nat.mod_lt _ hm,Nat.le_refl _,by simp[ke];omega,by simp[ke];omega,fun _=>hm⟩
 qK:=by simp[ke]
 parts:=by simp[ke]
 bK:=by simp[ke]
def j6 (s:bM):Bool:=decide (s.kind=0)&&s.done&&decide (s.bK=[])
def pK (t:bM):bM:={kind:=1,words:=t.words}
theorem XO {t:bM}(ht:t.Ok m)(hk:t.kind=0)(hm:1≤m):(pK t).Ok m where
 kind:= .inr (.inl rfl)
 seen:=by simp[pK]
 words:=ht.words
 nq:=by simp[pK]
 qK:=fun _=>⟨(ht.nq hk).1,by simp[pK],fun _=>by simp[pK];omega⟩
 parts:=by simp[pK]
 bK:=by simp[pK]
def kZ (ws:List Nat)(j:Nat):Bool:= !(ws.getD (j/32) 0).testBit (j%32)
def eM (n:Nat):List Nat:=
 if n%32=0 then List.replicate ((n+31)/32) 0
 else(List.replicate ((n+31)/32) 0).set ((n+31)/32-1) (4294967295&&& (18446744073709551615-(2^(n%32)-1)))
theorem Wg (h1:1≤n)(h2:n≤1024):ic ((n+31)/32) (eM n) where
 len:=by unfold eM;split<;>simp
 pos:=by omega
 most:=by omega
 lt:=by
  unfold eM
  split
  ·intro u hu;simp at hu;omega
  ·intro u hu
   rcases List.mem_or_eq_of_mem_set hu with hu|rfl
   ·simp at hu;omega
   ·exact Nat.lt_of_le_of_lt Nat.and_le_left (by decide)
def addPart (ps:List (Nat×Nat))(z:Nat):List (Nat×Nat):=
 match partAt ps (z/32)with
 |some i=>ps.set i ((ps.getD i (0,0)).1,(ps.getD i (0,0)).2|||2^(z%32))
 |none=>ps++[(z/32,2^(z%32))]
def km (n:Nat)(ps:List (Nat×Nat))(z:Int):List (Nat×Nat):=if 0≤z∧z<n then addPart ps z.toNat else ps
def lX (n:Nat)(l:List Int):List (Nat×Nat):=l.foldl (km n) []
def kU (n:Nat)(l:List Int):bM:={kind:=2,parts:=lX n l}
theorem Qo (n:Nat)(l:List Int)(z:Int):lX n (l++[z])=km n (lX n l) z:=by simp[lX]
theorem Qc (ps:List (Nat×Nat))(z:Nat):(addPart ps z).length≤ps.length+1:=by
 unfold addPart;split<;>simp
theorem Qq (n:Nat)(ps:List (Nat×Nat))(z:Int):(km n ps z).length≤ps.length+1:=by
 unfold km;split
 ·exact Qc _ _
 ·omega
theorem IS (n:Nat):∀(l:List Int) (ps:List (Nat×Nat)),(l.foldl (km n) ps).length≤ps.length+l.length
 |[],ps=>by simp
 |z::l,ps=>by
  have:=IS n l (km n ps z)
  have:=Qq n ps z
  simp only[List.foldl_cons,List.length_cons]
  omega
theorem HK (n:Nat)(l:List Int):(lX n l).length≤l.length:=by have:=IS n l [];simpa[lX]using this
theorem Fz (z:Nat):2^(z%32)<4294967296:=yX (Nat.mod_lt _ (by decide))
theorem Fx {ps:List (Nat×Nat)}{c i:Nat}(h:partAt ps c=some i):i<ps.length:=by
 unfold partAt at h
 obtain⟨h',_⟩:=List.findIdx?_eq_some_iff_getElem.1 h
 exact h'
theorem Qd {ps:List (Nat×Nat)}(h:∀p∈ps,p.1<m∧p.2<4294967296)(z:Nat)(hz:z/32<m):∀p∈addPart ps z,p.1<m∧p.2<4294967296:=by
 intro p hp
 unfold addPart at hp
 split at hp
 ·rename_i i hi
  have pv:i<ps.length:=by
   unfold partAt at hi
   obtain⟨h',_⟩:=List.findIdx?_eq_some_iff_getElem.1 hi
   exact h'
  rcases List.mem_or_eq_of_mem_set hp with hp|rfl
  ·exact h p hp
  ·have:=h ps[i] (List.getElem_mem pv)
   rw[List.getD_eq_getElem?_getD,List.getElem?_eq_getElem pv]
   exact⟨this.1,yW this.2 (Fz z)⟩
 ·rcases List.mem_append.1 hp with hp|hp
  ·exact h p hp
  ·simp at hp
   subst hp
   exact⟨hz,Fz z⟩
theorem C6 (hn:n≤32*m):∀(l:List Int) (ps:List (Nat×Nat)),(∀p∈ps,p.1<m∧p.2<4294967296)→∀p∈l.foldl (km n) ps,p.1<m∧p.2<4294967296
 |[],ps,h=>by simpa using h
 |z::l,ps,h=>by
  rw[List.foldl_cons]
  refine C6 hn l _ ?_
  unfold km
  split
  ·exact Qd h _ (by omega)
  ·exact h
theorem Qn (hn:n≤32*m)(l:List Int):(kU n l).Ok m where
 kind:= .inr (.inr rfl)
 seen:=by simp[kU]
 words:=by simp[kU]
 nq:=by simp[kU]
 qK:=by simp[kU]
 parts:=C6 hn l [] (by simp)
 bK:=by simp[kU]
theorem W9 {u most i:Nat}(h:i∈fD u most):i<32:=(qE.1 (List.mem_of_mem_take h)).1
theorem Lj (u most:Nat):ofBits (fD u most)<4294967296:=yU _ 32 fun _ h=>W9 h
theorem ic.set (h:ic m ws)(i:Nat){u:Nat}(hu:u<18446744073709551616):ic m (ws.set i u) where
 len:=by rw[List.length_set];exact h.len
 pos:=h.pos
 most:=h.most
 lt:=fun x hx=>by
  rcases List.mem_or_eq_of_mem_set hx with hx|rfl
  ·exact h.lt x hx
  ·exact hu
theorem getD_lt (h:∀u∈ws,u<18446744073709551616)(i:Nat):ws.getD i 0<18446744073709551616:=by
 rw[List.getD_eq_getElem?_getD]
 by_cases hi:i<ws.length
 ·rw[List.getElem?_eq_getElem hi];exact h _ (List.getElem_mem hi)
 ·rw[List.getElem?_eq_none (by omega)];simp
theorem xF (hw:ic m ws)(hs:s.Ok m):ic m (bp ws s).1∧(bp ws s).2.Ok m:=by
 unfold bp
 by_cases hd:s.done=true
 ·rw[if_pos hd];exact⟨hw,hs⟩
 rw[if_neg hd]
 by_cases h0:s.kind=0
 ·rw[if_pos h0]
  obtain⟨t1,t2,t3,t4,t5,t6⟩:=hs.nq h0
  have t6:=t6 (by simpa using hd)
  have hu:=getD_lt hw.lt s.word
  unfold kf
  by_cases hr:s.read=true
  ·rw[if_pos hr]
   by_cases he:ws.getD s.word 0=s.seen
   ·rw[if_pos he]
    refine⟨hw.set _ (H8 (yW (by omega) (Lj _ _))),⟨hs.kind,hs.seen,hs.words,fun _=>⟨t1,t2,t3,t4,t5,fun h=>by simp at h⟩,fun h=>by simp[h0]at h,hs.parts,?_⟩⟩
    simp only[List.length_map,fD,List.length_take]
    have:=Sw s.seen
    omega
   ·rw[if_neg he]
    exact⟨hw,⟨hs.kind,hs.seen,hs.words,hs.nq,hs.qK,hs.parts,hs.bK⟩⟩
  ·rw[if_neg hr]
   by_cases hf:dD (ws.getD s.word 0)=[]
   ·rw[if_pos hf]
    refine⟨hw,⟨hs.kind,hu,fun x hx=> ?_,fun _=>⟨by simp[t1],?_,by simp;omega,t4,t5,fun h=> ?_⟩,fun h=>by simp[h0]at h,hs.parts,hs.bK⟩⟩
    ·rcases List.mem_or_eq_of_mem_set hx with hx|rfl
     ·exact hs.words x hx
     ·exact hu
    ·simp only[t1]
     exact Nat.mod_lt _ (by omega)
    ·have h':decide (s.left-1=0)=false:=h
     have:=of_decide_eq_false h'
     show 1≤s.left-1
     omega
   ·rw[if_neg hf]
    exact⟨hw,⟨hs.kind,hu,hs.words,hs.nq,hs.qK,hs.parts,hs.bK⟩⟩
 ·rw[if_neg h0]
  by_cases h1:s.kind=1
  ·rw[if_pos h1]
   obtain⟨t1,t2,t3⟩:=hs.qK h1
   have t3:=t3 (by simpa using hd)
   unfold qJ
   by_cases he:ws.getD s.word 0=s.words.getD s.word 0
   ·rw[if_pos he]
    refine⟨hw,⟨hs.kind,hs.seen,hs.words,fun h=>absurd h h0,fun _=>⟨t1,by simp;omega,fun h=> ?_⟩,hs.parts,hs.bK⟩⟩
    simp[t1]at h
    simp;omega
   ·rw[if_neg he]
    exact⟨hw,⟨hs.kind,hs.seen,hs.words,fun h=>absurd h h0,fun _=>⟨t1,t2,fun h=>by simp at h⟩,hs.parts,hs.bK⟩⟩
  ·rw[if_neg h1]
   match hp:s.parts with
   |[]=>
    rw[xy hp]
    exact⟨hw,⟨hs.kind,hs.seen,hs.words,fun h=>absurd h h0,fun h=>absurd h h1,hs.parts,hs.bK⟩⟩
   |(k,mask)::rest=>
    rw[xx hp]
    have Ev:∀p∈rest,p.1<m∧p.2<4294967296:=fun p AY=>hs.parts p (by rw[hp];exact List.mem_cons_of_mem _ AY)
    by_cases hr:s.read=true
    ·rw[if_pos hr]
     by_cases he:ws.getD k 0=s.seen
     ·rw[if_pos he]
      exact⟨hw.set _ (H8 (Nat.lt_of_le_of_lt Nat.and_le_left (by omega))),⟨hs.kind,hs.seen,hs.words,fun h=>absurd h h0,fun h=>absurd h h1,Ev,hs.bK⟩⟩
     ·rw[if_neg he]
      exact⟨hw,⟨hs.kind,hs.seen,hs.words,hs.nq,hs.qK,hs.parts,hs.bK⟩⟩
    ·rw[if_neg hr]
     have hu:=getD_lt hw.lt k
     by_cases he:ws.getD k 0&&& mask=0
     ·rw[if_pos he]
      exact⟨hw,⟨hs.kind,hu,hs.words,fun h=>absurd h h0,fun h=>absurd h h1,Ev,hs.bK⟩⟩
     ·rw[if_neg he]
      exact⟨hw,⟨hs.kind,hu,hs.words,hs.nq,hs.qK,hs.parts,hs.bK⟩⟩
theorem Gj {i:Nat}(h:i<32):IntKind.u64.wrap ((2:Int)^i)=((2^i:Nat):Int):=by
 have:2^i<4294967296:=yX h
 rw[IntKind.wrap_u64,show((2:Int)^i)=((2^i:Nat):Int)by norm_cast]
 generalize 2^i=p at*
 omega
theorem ZT {u:Nat}(hu:u<18446744073709551616):bits BinOp.xor IntKind.u64 IntKind.u64.max (u:Int)=((18446744073709551615-u:Nat):Int):=by
 have:=u64_xor_nat 18446744073709551615 u (by decide) hu
 rw[show IntKind.u64.max=((18446744073709551615:Nat):Int)from rfl,this]
 congr 1
 apply Nat.eq_of_testBit_eq
 intro j
 have h1:(18446744073709551615:Nat).testBit j=decide (j<64):=Nat.testBit_two_pow_sub_one 64 j
 have h2:=Nat.testBit_two_pow_sub_succ (n:=64) (x:=u) hu j
 rw[show(2:Nat)^64-(u+1)=18446744073709551615-u by omega]at h2
 rw[Nat.testBit_xor,h1,h2]
 by_cases hj:j<64
 ·simp[hj]
 ·have:u.testBit j=false:=Nat.testBit_lt_two_pow (Nat.lt_of_lt_of_le hu (Nat.pow_le_pow_right (show 0<2 by decide) (show 64≤j by omega)))
  simp[hj,this]
theorem Li (u most:Nat):(fD u most).length=min most (dD u).length:=by simp[fD]
theorem Sx {u:Nat}(hu:u<18446744073709551616):bits BinOp.and IntKind.u64 (bits BinOp.xor IntKind.u64 IntKind.u64.max (u:Int)) 4294967295=((ofBits (dD u):Nat):Int):=by
 rw[ZT hu,←WB _ hu]
 exact u64_and_nat _ 4294967295 (by omega) (by decide)
theorem S4 {u most k:Nat}:(¬ofBits ((dD u).drop k)=0∧k<most)↔k<(fD u most).length:=by
 rw[Li,Fm,List.drop_eq_nil_iff]
 omega
theorem Sy (u k:Nat):ofBits ((dD u).drop k)<4294967296:=yU _ 32 fun i hi=>(qE.1 (List.mem_of_mem_drop hi)).1
theorem S5 {u k:Nat}(h:k<(dD u).length):
  Lib.ctz 64 (ofBits ((dD u).drop k))=(dD u)[k]∧(dD u)[k]<32∧
   ofBits ((dD u).drop k)&&& (18446744073709551615-2^(dD u)[k])=ofBits ((dD u).drop (k+1)):=by
 have e:=List.drop_eq_getElem_cons h
 have bY:∀j∈dD u,j<32:=fun j hj=>(qE.1 hj).1
 have h1:∀j∈(dD u).drop (k+1),(dD u)[k]<j:=XB (IX u) e
 have h2:∀j∈(dD u).drop (k+1),j<64:=fun j hj=>by have:=bY j (List.mem_of_mem_drop hj);omega
 have h3:(dD u)[k]<32:=bY _ (List.getElem_mem h)
 rw[e]
 exact⟨Q1 _ _ h1 (by omega) h2,h3,WD _ _ h1 h2 (by omega)⟩
theorem WC (l:List Nat)(i:Nat):ofBits (l++[i])=ofBits l|||2^i:=by
 induction l with
 |nil=>simp[ofBits]
 |cons j l ih=>simp[ofBits,ih,Nat.or_assoc]
theorem WE (u k:Nat):ofBits ((dD u).take k)<4294967296:=yU _ 32 fun i hi=>(qE.1 (List.mem_of_mem_take hi)).1
def vM (ws:List Nat)(s:bM):List Nat×bM:=
 if ws.getD s.word 0=s.seen then
  (ws.set s.word (mL s.seen (s.seen%4294967296|||ofBits (fD s.seen s.most))),{s with bK:=(fD s.seen s.most).map (s.word*32+ ·),done:=true})
 else(ws,s)
theorem Fb {u:Nat}(hu:u<18446744073709551616):bits BinOp.and IntKind.u64 (u:Int) 4294967295=((u%4294967296:Nat):Int):=by
 have:=u64_and_nat u 4294967295 hu (by decide)
 rw[show((4294967295:Nat):Int)=4294967295 from rfl]at this
 rw[this,Nat.and_two_pow_sub_one_eq_mod u 32]
theorem Qj {u k:Nat}(hu:u<18446744073709551616)(hk:k<4294967296):bits BinOp.and IntKind.u64 (u:Int) (k:Int)=((u&&& k:Nat):Int):=u64_and_nat u k hu (by omega)
theorem Qi {u mask:Nat}(hu:u<18446744073709551616)(hm:mask<4294967296):bits BinOp.andNot IntKind.u64 ((u:Int)%4294967296) (mask:Int)=((u%4294967296&&& (18446744073709551615-mask):Nat):Int):=by
 have:=u64_andNot_nat (u%4294967296) mask (by omega) (by omega)
 rw[←this]
 congr 1
theorem Yz (h:s.read=true):kf ws s=vM ws {s with read:=false}:=by
 unfold kf vM
 rw[if_pos h]
end
section
open Go.RowKit
structure aZ where
 id:Int
 at_:Nat
 av:Nat
theorem xor_zero {a b:Nat}(h:a^^^b=0):a=b:=by
 apply Nat.eq_of_testBit_eq
 intro i
 have:=congrArg (fun z=>Nat.testBit z i) h
 simp only[Nat.testBit_xor,Nat.zero_testBit]at this
 cases ha:a.testBit i<;>cases hb:b.testBit i<;>simp_all
def fI (a b:Nat):Nat:=(Lib.bitLen (a^^^b)-1)/6
theorem BG (l:Nat):64^l=2^(6*l):=by rw[Nat.pow_mul]
theorem yL {a b:Nat}(ha:a<4294967296)(hb:b<4294967296)(h:a≠b):fI a b≤5∧a/64^(fI a b+1)=b/64^(fI a b+1)∧a/64^fI a b≠b/64^fI a b:=by
 have hv:a^^^b<2^32:=Nat.xor_lt_two_pow (by omega) (by omega)
 have EM:a^^^b≠0:=fun e=>h (xor_zero e)
 obtain⟨h1,h2,h3⟩:=Lib.bitLenAux_bounds 64 (a^^^b) (by omega) EM
 have hl:Lib.bitLen (a^^^b)≤32:=Lib.bitLen_le _ 32 (by decide) hv
 have e:Lib.bitLen (a^^^b)=Lib.bitLenAux 64 (a^^^b):=rfl
 rw[←e]at h1 h2 h3
 unfold fI
 generalize Lib.bitLen (a^^^b)=n at*
 refine⟨by omega,?_,?_⟩
 ·apply xor_zero
  rw[BG,←Nat.xor_div_two_pow]
  refine Nat.div_eq_of_lt (Nat.lt_of_lt_of_le h3 (Nat.pow_le_pow_right (by decide) (by omega)))
 ·intro g
  have:(a^^^b)/2^(6*((n-1)/6))=0:=by
   rw[Nat.xor_div_two_pow,←BG,g,Nat.xor_self]
  have h4:2^(6*((n-1)/6))≤a^^^b:=Nat.le_trans (Nat.pow_le_pow_right (by decide) (by omega)) h2
  have h5:=Nat.div_pos h4 (Nat.pow_pos (by decide))
  omega
theorem Io {a b m n:Nat}(h:a/64^m=b/64^m)(hm:m≤n):a/64^n=b/64^n:=by
 obtain⟨k,rfl⟩:∃k,n=m+k:=⟨n-m,by omega⟩
 rw[Nat.pow_add,←Nat.div_div_eq_div_mul,←Nat.div_div_eq_div_mul,h]
theorem VH {a b l:Nat}(ha:a<4294967296)(hb:b<4294967296)(h1:a/64^(l+1)=b/64^(l+1))(h2:a/64^l≠b/64^l):fI a b=l:=by
 have gK:a≠b:=fun e=>h2 (by rw[e])
 obtain⟨_,k1,k2⟩:=yL ha hb gK
 rcases Nat.lt_trichotomy (fI a b) l with g|g|g
 ·exact absurd (Io k1 g) h2
 ·exact g
 ·exact absurd (Io h1 g) k2
def dg (x l:Nat):Nat:=x/64^l%64
theorem Ae (x l:Nat):x/64^(l+1)=x/64^l/64:=by rw[Nat.pow_succ,←Nat.div_div_eq_div_mul]
theorem Re {x f l:Nat}(h:f<x)(h1:x/64^(l+1)=f/64^(l+1))(h2:x/64^l≠f/64^l):dg f l<dg x l:=by
 have h3:f/64^l≤x/64^l:=Nat.div_le_div_right (by omega)
 rw[Ae,Ae]at h1
 unfold dg
 omega
theorem S9 {x t l:Nat}(h1:x/64^(l+1)=t/64^(l+1))(h2:dg t l<dg x l):t<x∧x/64^l≠t/64^l:=by
 rw[Ae,Ae]at h1
 unfold dg at h2
 have h3:t/64^l<x/64^l:=by omega
 refine⟨?_,by omega⟩
 rcases Nat.lt_or_ge t x with g|g
 ·exact g
 ·have:x/64^l≤t/64^l:=Nat.div_le_div_right g
  omega
def qI (l f t:Nat):List Nat:=if f/64^(l+1)=t/64^(l+1)then List.range' (dg f l+1) (dg t l-dg f l)else List.range' 0 64
theorem Fw {l f t i:Nat}(h:i∈qI l f t):i<64:=by
 unfold qI at h
 split at h
 ·have h3:dg t l<64:=Nat.mod_lt _ (by decide)
  obtain⟨j,hj,rfl⟩:=List.mem_range'.1 h
  omega
 ·obtain⟨j,hj,rfl⟩:=List.mem_range'.1 h
  omega
theorem stays {x f t:Nat}(hx:x<4294967296)(ht:t<4294967296)(hf:f<x)(hn:dg x (fI x f)∉qI (fI x f) f t):t<x∧fI x t=fI x f:=by
 obtain⟨_,h1,h2⟩:=yL hx (by omega) (show x≠f by omega)
 have h3:=Re hf h1 h2
 have h4:dg x (fI x f)<64:=Nat.mod_lt _ (by decide)
 generalize fI x f=l at*
 unfold qI at hn
 split at hn
 ·rename_i e
  have h5:dg t l<dg x l:=by
   rcases Nat.lt_or_ge (dg t l) (dg x l)with g|g
   ·exact g
   ·refine absurd (List.mem_range'.2 ⟨dg x l-(dg f l+1),by omega,by omega⟩) hn
  obtain⟨h6,h7⟩:=S9 (h1.trans e) h5
  exact⟨h6,VH hx ht (h1.trans e) h7⟩
 ·exact absurd (List.mem_range'.2 ⟨dg x l,by omega,by omega⟩) hn
structure cz where
 now:Nat
 av:Nat
 ready:List aZ
 sl:Nat→List aZ
def iz {α:Type}(f:Nat→α)(k:Nat)(v:α):Nat→α:=fun i=>if i=k then v else f i
theorem va {α:Type}(f:Nat→α)(k:Nat)(v:α):iz f k v k=v:=if_pos rfl
theorem tI {α:Type}(f:Nat→α){k i:Nat}(v:α)(h:i≠k):iz f k v i=f i:=if_neg h
def spot (now a:Nat):Nat:=fI a now*64+dg a (fI a now)
theorem L3 {now a:Nat}(ha:a<4294967296)(h:now<a):spot now a<384:=by
 have h1:=(yL ha (show now<4294967296 by omega) (show a≠now by omega)).1
 have h2:dg a (fI a now)<64:=Nat.mod_lt _ (by decide)
 unfold spot
 omega
def jB (sl:Nat→List aZ):List aZ:=(List.range 384).flatMap sl
def cz.all (s:cz):List aZ:=s.ready++jB s.sl
def gy (s:cz)(x:aZ):cz:=if x.at_≤s.now then {s with ready:=s.ready++[x]}else {s with sl:=iz s.sl (spot s.now x.at_) (s.sl (spot s.now x.at_)++[x])}
structure kS (s:cz):Prop where
 now:s.now<4294967296
 ready:∀x∈s.ready,x.at_≤s.now
 sl:∀k,k<384→∀x∈s.sl k,s.now<x.at_∧x.at_<4294967296∧spot s.now x.at_=k
theorem Lx (s:cz)(x:aZ):(gy s x).now=s.now∧(gy s x).av=s.av:=by unfold gy;split<;>exact⟨rfl,rfl⟩
theorem Ly {s:cz}{x:aZ}(h:kS s)(hx:x.at_<4294967296):kS (gy s x):=by
 unfold gy
 split
 ·rename_i g
  refine⟨h.now,fun y hy=> ?_,h.sl⟩
  rcases List.mem_append.1 hy with hy|hy
  ·exact h.ready y hy
  ·simp only[List.mem_singleton]at hy
   subst hy;exact g
 ·rename_i g
  refine⟨h.now,h.ready,fun k hk y hy=> ?_⟩
  dsimp only at hy ⊢
  unfold iz at hy
  split at hy
  ·rename_i e
   subst e
   rcases List.mem_append.1 hy with hy|hy
   ·exact h.sl _ hk y hy
   ·simp only[List.mem_singleton]at hy
    subst hy
    exact⟨by omega,hx,rfl⟩
  ·exact h.sl k hk y hy
open List in
theorem Dx (f:Nat→List aZ)(k:Nat)(v:List aZ):∀n,k<n→((List.range n).flatMap (iz f k v)++f k) ~ ((List.range n).flatMap f++v)
 |0,h=>absurd h (by omega)
 |n+1,h=>by
  rw[List.range_succ,List.flatMap_append,List.flatMap_append]
  simp only[List.flatMap_cons,List.flatMap_nil,List.append_nil]
  rcases Nat.lt_or_ge k n with g|g
  ·have ih:=Dx f k v n g
   rw[tI f v (show n≠k by omega)]
   have e1:((List.range n).flatMap (iz f k v)++f n++f k) ~ (((List.range n).flatMap (iz f k v)++f k)++f n):=by
    rw[List.append_assoc,List.append_assoc]
    exact List.Perm.append_left _ List.perm_append_comm
   have e2:((List.range n).flatMap f++v++f n) ~ ((List.range n).flatMap f++f n++v):=by
    rw[List.append_assoc,List.append_assoc]
    exact List.Perm.append_left _ List.perm_append_comm
   exact e1.trans ((ih.append_right _).trans e2)
  ·obtain rfl:k=n:=by omega
   rw[va]
   have e3:(List.range k).flatMap (iz f k v)=(List.range k).flatMap f:=by
    have hc:∀x∈List.range k,iz f k v x=f x:=fun x hx=>tI f v (by have:=List.mem_range.1 hx;omega)
    rw[List.flatMap_def,List.flatMap_def,List.map_congr_left hc]
   rw[e3,List.append_assoc,List.append_assoc]
   exact List.Perm.append_left _ List.perm_append_comm
open List in
theorem Lw {s:cz}{x:aZ}(hx:x.at_<4294967296):(gy s x).all ~ (x::s.all):=by
 unfold gy cz.all
 split
 ·dsimp only
  rw[List.append_assoc]
  exact List.perm_middle
 ·rename_i g
  dsimp only
  have h:=Dx s.sl (spot s.now x.at_) (s.sl (spot s.now x.at_)++[x]) 384 (L3 hx (by omega))
  have h2:(jB (iz s.sl (spot s.now x.at_) (s.sl (spot s.now x.at_)++[x]))) ~ (jB s.sl++[x]):=by
   have h3:(jB (iz s.sl (spot s.now x.at_) (s.sl (spot s.now x.at_)++[x]))++s.sl (spot s.now x.at_)) ~ ((jB s.sl++[x])++s.sl (spot s.now x.at_)):=by
    refine h.trans ?_
    rw[←List.append_assoc,List.append_assoc,List.append_assoc]
    exact List.Perm.append_left _ List.perm_append_comm
   exact(List.perm_append_right_iff _).1 h3
  refine(List.Perm.append_left _ h2).trans ?_
  rw[←List.append_assoc]
  exact List.perm_append_singleton _ _
open List in
theorem BJ:∀(l:List aZ) (s:cz),kS s→(∀x∈l,x.at_<4294967296)→kS (l.foldl gy s)∧(l.foldl gy s).now=s.now∧(l.foldl gy s).av=s.av∧(l.foldl gy s).all ~ (l++s.all)
 |[],s,h,_=>⟨h,rfl,rfl,.refl _⟩
 |x::l,s,h,hx=>by
  obtain⟨h1,h2,h3,h4⟩:=BJ l (gy s x) (Ly h (hx x (by simp))) fun y hy=>hx y (by simp[hy])
  obtain⟨e1,e2⟩:=Lx s x
  refine⟨h1,h2.trans e1,h3.trans e2,h4.trans ?_⟩
  exact(List.Perm.append_left _ (Lw (hx x (by simp)))).trans List.perm_middle
def fB:List Nat→(Nat→List aZ)→List aZ→List aZ×(Nat→List aZ)
 |[],sl,out=>(out,sl)
 |i::l,sl,out=>fB l (iz sl i []) (out++sl i)
theorem DE:∀(a b:List Nat) (sl:Nat→List aZ) (out:List aZ),fB (a++b) sl out=fB b (fB a sl out).2 (fB a sl out).1
 |[],_,_,_=>rfl
 |_::a,b,sl,out=>DE a b _ _
theorem DG:∀(l:List Nat) (sl:Nat→List aZ) (out:List aZ),fB l sl out=(out++(fB l sl []).1,(fB l sl []).2)
 |[],sl,out=>by simp[fB]
 |i::l,sl,out=>by
  rw[fB,fB,DG l (iz sl i []) (out++sl i),DG l (iz sl i []) ([]++sl i)]
  simp
theorem Av:∀(l:List Nat) (sl:Nat→List aZ) (out:List aZ) (k:Nat),(fB l sl out).2 k=if k∈l then []else sl k
 |[],sl,out,k=>by simp[fB]
 |i::l,sl,out,k=>by
  rw[fB,Av l]
  by_cases h1:k∈l
  ·simp[h1]
  ·by_cases h2:k=i
   ·subst h2;simp[h1,va]
   ·simp[h1,h2,tI]
open List in
theorem xT:∀(l:List Nat) (sl:Nat→List aZ) (out:List aZ),(∀i∈l,i<384)→((fB l sl out).1++jB (fB l sl out).2) ~ (out++jB sl)
 |[],sl,out,_=> .refl _
 |i::l,sl,out,h=>by
  rw[fB]
  refine(xT l _ _ fun j hj=>h j (by simp[hj])).trans ?_
  have:=Dx sl i [] 384 (h i (by simp))
  rw[List.append_nil]at this
  rw[List.append_assoc]
  exact List.Perm.append_left _ (List.perm_append_comm.trans this)
theorem DF:∀(l:List Nat) (sl:Nat→List aZ) (out:List aZ) (x:aZ),x∈(fB l sl out).1→x∈out∨∃i∈l,x∈sl i
 |[],sl,out,x,h=> .inl h
 |i::l,sl,out,x,h=>by
  rw[fB]at h
  rcases DF l _ _ x h with g|⟨j,hj,g⟩
  ·rcases List.mem_append.1 g with g|g
   ·exact .inl g
   ·exact .inr ⟨i,by simp,g⟩
  ·by_cases e:j=i
   ·subst e;rw[va]at g;simp at g
   ·rw[tI _ _ e]at g
    exact .inr ⟨j,by simp[hj],g⟩
def oI (l f t:Nat):List Nat:=(qI l f t).map (l*64+ ·)
def idx (f t:Nat):List Nat:=(List.range 6).flatMap fun l=>oI l f t
theorem Kc {f t i:Nat}(h:i∈idx f t):i<384:=by
 obtain⟨l,hl,h⟩:=List.mem_flatMap.1 h
 obtain⟨j,hj,rfl⟩:=List.mem_map.1 h
 have:=Fw hj
 have:=List.mem_range.1 hl
 omega
def rl (s:cz)(t:Nat):List aZ×cz:=
 let g:=fB (idx s.now t) s.sl []
 let s2:=g.1.foldl gy ⟨t,s.av,[],g.2⟩
 (s.ready++s2.ready,{s2 with ready:=[]})
def fP (s:cz)(n:Int):List aZ×cz:=if(s.now:Int)<min n 4294967295 then rl s (min n 4294967295).toNat else(s.ready,{s with ready:=[]})
structure Gs (s:cz)(R:List aZ)(s':cz)(t:Nat):Prop where
 pos:kS s'
 now:s'.now=t
 av:s'.av=s.av
 none:s'.ready=[]
 perm:(R++s'.all).Perm s.all
 due:∀x∈R,x.at_≤t
 left:∀x∈s'.all,t<x.at_
theorem kS.late {s:cz}(h:kS s){x:aZ}(hx:x∈jB s.sl):s.now<x.at_∧x.at_<4294967296:=by
 obtain⟨k,hk,hx⟩:=List.mem_flatMap.1 hx
 have:=h.sl k (List.mem_range.1 hk) x hx
 exact⟨this.1,this.2.1⟩
theorem RE {s:cz}{t:Nat}(h:kS s)(ht:s.now<t)(mn:t<4294967296):Gs s (rl s t).1 (rl s t).2 t:=by
 unfold rl
 dsimp only
 have A0:=xT (idx s.now t) s.sl [] fun i hi=>Kc hi
 have kY:=Av (idx s.now t) s.sl []
 have vV:=DF (idx s.now t) s.sl []
 generalize hg:fB (idx s.now t) s.sl []=g at*
 have iI:∀x∈g.1,x.at_<4294967296:=fun x hx=>by
  rcases vV x hx with h1|⟨i,hi,h1⟩
  ·simp at h1
  ·exact(h.sl i (Kc hi) x h1).2.1
 have hp:kS ⟨t,s.av,[],g.2⟩:=by
  refine⟨mn,fun x hx=>by simp at hx,fun k hk x hx=> ?_⟩
  dsimp only at hx ⊢
  rw[kY k]at hx
  split at hx
  ·simp at hx
  ·rename_i nN
   obtain⟨q1,q2,q3⟩:=h.sl k hk x hx
   have hl:=(yL q2 h.now (show x.at_≠s.now by omega)).1
   have hn:dg x.at_ (fI x.at_ s.now)∉qI (fI x.at_ s.now) s.now t:=fun hm=>by
    refine nN (List.mem_flatMap.2 ⟨fI x.at_ s.now,List.mem_range.2 (by omega),List.mem_map.2 ⟨_,hm,?_⟩⟩)
    rw[←q3];rfl
   obtain⟨r1,r2⟩:=stays q2 mn q1 hn
   refine⟨r1,q2,?_⟩
   rw[←q3]
   unfold spot
   rw[r2]
 obtain⟨k1,k2,k3,k4⟩:=BJ g.1 ⟨t,s.av,[],g.2⟩ hp iI
 generalize g.1.foldl gy ⟨t,s.av,[],g.2⟩=s2 at*
 dsimp only at k2 k3
 refine⟨⟨k1.now,fun x hx=>by simp at hx,k1.sl⟩,k2,k3,rfl,?_,fun x hx=> ?_,fun x hx=> ?_⟩
 ·unfold cz.all at k4 ⊢
  dsimp only at k4 ⊢
  rw[List.nil_append]at k4
  rw[List.nil_append,List.append_assoc]
  rw[List.nil_append]at A0
  exact List.Perm.append_left _ (k4.trans A0)
 ·rcases List.mem_append.1 hx with hx|hx
  ·have:=h.ready x hx;omega
  ·have:=k1.ready x hx;omega
 ·have hx:x∈jB s2.sl:=by
   unfold cz.all at hx
   simpa using hx
  have:=(k1.late hx).1
  omega
theorem Af {s:cz}{n:Int}(h:kS s):Gs s (fP s n).1 (fP s n).2 (max s.now (min n 4294967295).toNat):=by
 unfold fP
 split
 ·rename_i g
  have hn:=h.now
  have e:max s.now (min n 4294967295).toNat=(min n 4294967295).toNat:=by omega
  rw[e]
  exact RE h (by omega) (by omega)
 ·rename_i g
  have e:max s.now (min n 4294967295).toNat=s.now:=by omega
  rw[e]
  refine⟨⟨h.now,fun x hx=>by simp at hx,h.sl⟩,rfl,rfl,rfl,?_,fun x hx=>h.ready x hx,fun x hx=> ?_⟩
  ·unfold cz.all
   dsimp only
   rw[List.nil_append]
  ·have hx:x∈jB s.sl:=by
    unfold cz.all at hx
    simpa using hx
   exact(h.late hx).1
end
section
open Go.RowKit
def ud (a b:aZ):Bool:=decide (a.at_<b.at_∨(a.at_=b.at_∧a.av<b.av))
abbrev rm (a b:aZ):Bool:= !ud b a
theorem Dh {a b:aZ}:rm a b=true↔a.at_<b.at_∨(a.at_=b.at_∧a.av≤b.av):=by
 simp only[rm,ud,Bool.not_eq_true',decide_eq_false_iff_not]
 omega
def iZ (l:List aZ):List aZ:=l.mergeSort rm
theorem zc (l:List aZ):(iZ l).Perm l:=List.mergeSort_perm l _
theorem Yh (l:List aZ):(iZ l).Pairwise (fun a b=>rm a b=true):=
 List.pairwise_mergeSort (fun a b c h1 h2=>by rw[Dh]at*;omega) (fun a b=>by
  by_cases h:rm a b=true
  ·simp[h]
  ·have:rm b a=true:=by
    rw[Dh]at*;omega
   simp[this]) l
theorem B3 (l:List aZ):(iZ l).length=l.length:=(zc l).length_eq
theorem Yf:iZ []=[]:=by simp[iZ]
def iE (l:List aZ):Prop:=(l.map aZ.av).Nodup
theorem iE.perm {l m:List aZ}(h:iE l)(p:m.Perm l):iE m:=List.Nodup.perm h (p.symm.map _)
theorem iE.inj:∀ {l:List aZ} {a b:aZ},iE l→a∈l→b∈l→a.av=b.av→a=b
 |[],a,_,_,h,_,_=>by simp at h
 |x::l,a,b,ht,ha,hb,e=>by
  unfold iE at ht
  rw[List.map_cons,List.nodup_cons]at ht
  rcases List.mem_cons.1 ha with ea|AD
  ·rcases List.mem_cons.1 hb with eb|ig
   ·rw[ea,eb]
   ·rw[ea]at e
    exact absurd (List.mem_map.2 ⟨b,ig,e.symm⟩) ht.1
  ·rcases List.mem_cons.1 hb with eb|ig
   ·rw[eb]at e
    exact absurd (List.mem_map.2 ⟨a,AD,e⟩) ht.1
   ·exact iE.inj (l:=l) ht.2 AD ig e
theorem Yg {l m:List aZ}(ht:iE l)(hp:m.Perm l)(hs:m.Pairwise (fun a b=>rm a b=true)):m=iZ l:=by
 refine List.Perm.eq_of_pairwise (le:=fun a b=>rm a b=true) ?_ hs (Yh l) (hp.trans (zc l).symm)
 intro a b ha hb h1 h2
 rw[Dh]at h1 h2
 exact ht.inj (hp.mem_iff.1 ha) ((zc l).mem_iff.1 hb) (by omega)
def aZ.item (x:aZ):Int×Int:=(x.id,(x.at_:Int))
def na (l:List aZ):List (Int×Int):=l.map aZ.item
theorem iE.cons {l:List aZ}{x:aZ}(ht:iE l)(hx:∀y∈l,y.av<x.av):iE (x::l):=by
 unfold iE at*
 rw[List.map_cons,List.nodup_cons]
 refine⟨fun h=> ?_,ht⟩
 obtain⟨y,hy,e⟩:=List.mem_map.1 h
 have:=hx y hy
 omega
structure jx (s:cz):Prop where
 pos:kS s
 turns:iE s.all
 less:∀x∈s.all,x.av≤s.av
def lK:cz:=⟨0,0,[],fun _=>[]⟩
theorem Dw:jB (fun _=>[])=[]:=by unfold jB;simp
theorem Wh:jx lK:=⟨⟨by decide,fun x hx=>by simp[lK]at hx,fun k _ x hx=>by simp[lK]at hx⟩,by simp[iE,cz.all,lK,Dw],fun x hx=>by simp[cz.all,lK,Dw]at hx⟩
theorem KO:lK.all=[]:=by simp[cz.all,lK,Dw]
def nA (s:cz)(id:Int)(a:Nat):cz:=gy {s with av:=s.av+1} ⟨id,a,s.av+1⟩
theorem HA {s:cz}{id:Int}{a:Nat}(h:jx s)(ha:a<4294967296):jx (nA s id a)∧(nA s id a).now=s.now∧(nA s id a).av=s.av+1∧(nA s id a).all.Perm (⟨id,a,s.av+1⟩::s.all):=by
 have hp:kS {s with av:=s.av+1}:=⟨h.pos.now,h.pos.ready,h.pos.sl⟩
 have h1:=Ly (x:=⟨id,a,s.av+1⟩) hp ha
 have h2:=Lw (s:={s with av:=s.av+1}) (x:=⟨id,a,s.av+1⟩) ha
 obtain⟨h3,h4⟩:=Lx {s with av:=s.av+1} ⟨id,a,s.av+1⟩
 have ht:iE (⟨id,a,s.av+1⟩::s.all):=iE.cons h.turns fun y hy=>by have:=h.less y hy;dsimp only;omega
 refine⟨⟨h1,ht.perm h2,fun x hx=> ?_⟩,h3,h4,h2⟩
 unfold nA
 rw[h4]
 dsimp only
 rcases List.mem_cons.1 (h2.mem_iff.1 hx)with rfl|hx
 ·exact Nat.le_refl _
 ·have:=h.less x hx;omega
theorem RF {s:cz}{n:Int}(h:jx s):jx (fP s n).2:=by
 have hd:=Af (n:=n) h.pos
 have ht:=h.turns.perm hd.perm
 refine⟨hd.pos,?_,fun x hx=> ?_⟩
 ·unfold iE at*
  rw[List.map_append]at ht
  exact(List.nodup_append.1 ht).2.1
 ·rw[hd.av]
  exact h.less x (hd.perm.mem_iff.1 (List.mem_append_right _ hx))
end
section
def mz:bM:={kind:=0}
structure jN where
 kind:Nat
 dE:bM
 done:Bool
structure dH where
 h:Nat
 l:List Nat
 out:Option bM
def tZ (h:Nat):dH:=⟨h,[],none⟩
def zd:jN:=⟨3,mz,false⟩
def ou (np:Nat)(c:dH):jN:=if c.l≠ []∨c.out.isSome=true then zd else⟨0,ke c.h 8 ((np+31)/32),false⟩
def HV (f:jN):jN:=⟨1,pK f.dE,false⟩
def qb (s:jN):Bool:=decide (s.kind=0)&&s.done&&j6 s.dE
def fO (np:Nat)(c:dH)(x:Nat):dH×jN:=
 if 16<(c.l++[x]).length∧c.out.isSome=false then({c with l:=(c.l++[x]).drop 8,out:=some (kU np (((c.l++[x]).take 8).map fun y:Nat=>(y:Int)))},⟨2,mz,false⟩)
 else({c with l:=c.l++[x]},zd)
def cX (ws:List Nat)(c:dH)(s:jN):List Nat×dH×jN:=
 if s.done=true then(ws,c,s)
 else if s.kind=3 then(ws,c,{s with done:=true})
 else if s.kind=2 then
  match c.out with
  |some o=>((bp ws o).1,{c with out:=if(bp ws o).2.done=true then none else some (bp ws o).2},{s with done:=(bp ws o).2.done})
  |none=>(ws,c,{s with done:=true})
 else((bp ws s.dE).1,if s.kind=0∧(bp ws s.dE).2.done=true then {c with h:=if(bp ws s.dE).2.bK=[]then c.h else(bp ws s.dE).2.word,l:=c.l++(bp ws s.dE).2.bK.reverse}else c,{s with dE:=(bp ws s.dE).2,done:=(bp ws s.dE).2.done})
structure aM where
 out:Bool
 b:List UInt8
 tick:Int
 next:Nat
 ai:dU
 part:iq
 gJ:Bool
 cb:Option jg
 find:Option aT
 fill:Option jN
 again:Option jN
 enter:Option aT
 id:Int
 word:bH
 now:bH
 eH:dU
 made:Bool
 iJ:Nat
 pinned:Bool
 gD:List UInt8
 oo:Nat
 done:Bool
structure cI where
 tick:Int
 next:Nat
 due:List Nat
 word:bH
 drop:Option aT
 dying:Int
 on:Option jg
 aI:List Nat
 back:Option jN
 done:Bool
structure aK where
 c0:dH
 c1:dH
 c2:dH
 aD:cz
 aS:List (Int×dU)
 frame:Option aM
 aC:Option cI
 bt:List UInt8
 fh:Nat
 any:Bool
 ended:List (Int×Int)
structure aW where
 pl:List Nat
 tb:List Nat
 ep:List Nat
 gs:List (List (Nat×Nat))
 p0:List Nat
 p1:List Nat
 p2:List Nat
structure cH where
 sh:aW
 wk:List aK
def aK.ca (k:aK)(i:Nat):dH:=if i=0 then k.c0 else if i=1 then k.c1 else k.c2
def aK.cK (k:aK)(i:Nat)(c:dH):aK:=if i=0 then {k with c0:=c}else if i=1 then {k with c1:=c}else {k with c2:=c}
def aW.po (s:aW)(i:Nat):List Nat:=if i=0 then s.p0 else if i=1 then s.p1 else s.p2
def aW.eV (s:aW)(i:Nat)(w:List Nat):aW:=if i=0 then {s with p0:=w}else if i=1 then {s with p1:=w}else {s with p2:=w}
def ln (w:Nat):aK:=⟨tZ w,tZ w,tZ w,lK,[],none,none,[],0,false,[]⟩
def fw (c:NC):cH:=⟨⟨List.replicate (2*(3*c.np)) 0,List.replicate (c.nb+1) 0,List.replicate (c.n+1) 0,List.replicate c.n [],eM c.np,eM c.np,eM c.np⟩,(List.range c.n).map ln⟩
def aH (proto:Nat):Nat:=if proto=1 then 0 else if proto=6 then 1 else 2
def fx (k:Nat):Nat:=if k=0 then 1 else if k=1 then 6 else 17
def Kh (f:dU):Nat:=iw f.proto f.addr f.port
def ox (k:Nat):dU:=⟨k/281474976710656,k/65536%4294967296,k%65536⟩
def kH (c:NC)(kind:Nat)(f:dU)(id:Int)(next:Nat):aT:=tx kind f.proto f.addr f.port id next c.nb
def bI (s:aW)(id:Int):bH:=bH.of (s.pl.getD (2*id.toNat) 0)
def qC (s:aW)(id:Int):Nat:=s.pl.getD (2*id.toNat+1) 0
def jR (s:aW)(id:Int)(a b:bH):Bool:=ng a b&&decide (s.pl.getD (2*id.toNat) 0=a.num)
def bL (s:aW)(id:Int)(a b:bH):aW:=if jR s id a b=true then {s with pl:=s.pl.set (2*id.toNat) b.num}else s
def oO (s:aW)(id:Int)(f:dU):aW:={s with pl:=s.pl.set (2*id.toNat+1) (Kh f)}
def oy (out:Bool)(b:List UInt8)(tick:Int):aM:=⟨out,b,tick,0,ow,bG,false,none,none,none,none,none, -1,w0,w0,ow,false,0,false,[],0,false⟩
def aM.fin (f:aM)(b:List UInt8)(e:Nat):aM:={f with gD:=b,oo:=e,next:=18}
def aM.refuse (f:aM)(e:Nat):aM:={f with gD:=[],oo:=e,done:=true}
def aM.look (c:NC)(f:aM):aM:={f with find:=some (kH c 0 f.ai (-1) 0),next:=2}
def aM.jL (f:aM)(w:bH):bH:=if f.part.err then w else {w with tr:=mw f.ai.proto w.tr f.out f.part.flags,sn:=if oN f.ai.proto f.out then max w.sn f.tick.toNat else w.sn}
def y9 (l:List UInt8):Nat:=eA l
def aM.goes (c:NC)(f:aM)(id:Int):aM:=f.fin (kF f.b true c.o (c.lo+id.toNat%c.np)) (y9 f.b)
def aM.jW (f:aM)(id:Int)(w:bH):aM:={f with id:=id,word:=w,next:=if w.st=1 then 3 else 4}
def pN (c:NC)(w:Nat)(f:aM):aM:=
 if f.tick<0∨f.tick>4294967295 then f.refuse 1
 else if lO c.o f.out f.b≠0 then f.refuse (lO c.o f.out f.b)
 else if f.out=false∧ka c.cfg (ed f.out f.b).proto (ed f.out f.b).port<0 then
  {f with part:=fR f.b,ai:=ed f.out f.b,gJ:=o5 f.out f.b,id:=ka c.cfg (ed f.out f.b).proto (ed f.out f.b).port}.refuse 7
 else {f with part:=fR f.b,ai:=ed f.out f.b,gJ:=o5 f.out f.b,id:=if f.out=true then f.id else ka c.cfg (ed f.out f.b).proto (ed f.out f.b).port,cb:=some ⟨w,false,0,0,false,false⟩,next:=1}
def aM.vI (c:NC)(k:aK)(f:aM):aM:={f with fill:=some (ou c.np (k.ca (aH f.ai.proto))),next:=6}
def wH (c:NC)(s:aW)(f:aM):aM:=
 if(bI s f.id).gen≠f.word.gen∨((bI s f.id).st≠2∧(bI s f.id).st≠1)then f.look c
 else if(bI s f.id).st=1 then f.jW f.id (bI s f.id)
 else if f.jL (bI s f.id)=bI s f.id then {f with word:=bI s f.id,now:=f.jL (bI s f.id),next:=5}.goes c f.id
 else {f with word:=bI s f.id,now:=f.jL (bI s f.id),next:=5}
def vE (c:NC)(k:aK)(f:aM)(t:aT):aM:=
 if t.end_=0 then f.jW t.found t.aP else if f.gJ=true then f.vI c k else f.fin [] 7
def gG (c:NC)(s:aW)(k:aK)(f:aM):aW×aM:=
 if f.next=2 then
  match f.find with
  |some t=>({s with tb:=(bO s.pl c.nb s.tb t).1},if(bO s.pl c.nb s.tb t).2.done=false then {f with find:=some (bO s.pl c.nb s.tb t).2}else vE c k {f with find:=some (bO s.pl c.nb s.tb t).2} (bO s.pl c.nb s.tb t).2)
  |none=>(s,f)
 else if f.next=3 then(bL s f.id f.word {f.word with st:=2},{f with next:=4})
 else if f.next=4 then(s,wH c s f)
 else(bL s f.id f.word f.now,if jR s f.id f.word f.now=true then {f with next:=4}.goes c f.id else {f with next:=4})
def nY (c:dH):Nat:=c.l.getD (c.l.length-1) 0
def cM (c:NC)(s:aW)(k:aK)(f:aM):aW×aK×aM:=
 if f.next=6 then
  match f.fill with
  |some x=>
   ({s.eV (aH f.ai.proto) (cX (s.po (aH f.ai.proto)) (k.ca (aH f.ai.proto)) x).1 with tb:=s.tb},k.cK (aH f.ai.proto) (cX (s.po (aH f.ai.proto)) (k.ca (aH f.ai.proto)) x).2.1,
    if(cX (s.po (aH f.ai.proto)) (k.ca (aH f.ai.proto)) x).2.2.done=false then {f with fill:=some (cX (s.po (aH f.ai.proto)) (k.ca (aH f.ai.proto)) x).2.2}
    else if qb (cX (s.po (aH f.ai.proto)) (k.ca (aH f.ai.proto)) x).2.2=true then {f with fill:=some (cX (s.po (aH f.ai.proto)) (k.ca (aH f.ai.proto)) x).2.2,find:=some (kH c 0 f.ai (-1) 0),next:=7}
    else {f with fill:=some (cX (s.po (aH f.ai.proto)) (k.ca (aH f.ai.proto)) x).2.2,next:=9})
  |none=>(s,k,f)
 else if f.next=7 then
  match f.find,f.fill with
  |some t,some x=>({s with tb:=(bO s.pl c.nb s.tb t).1},k,if(bO s.pl c.nb s.tb t).2.done=false then {f with find:=some (bO s.pl c.nb s.tb t).2}
    else if(bO s.pl c.nb s.tb t).2.end_=0 then {f with find:=some (bO s.pl c.nb s.tb t).2}.jW (bO s.pl c.nb s.tb t).2.found (bO s.pl c.nb s.tb t).2.aP
    else {f with find:=some (bO s.pl c.nb s.tb t).2,again:=some (HV x),next:=8})
  |_,_=>(s,k,f)
 else if f.next=8 then
  match f.again with
  |some x=>
   (s.eV (aH f.ai.proto) (cX (s.po (aH f.ai.proto)) (k.ca (aH f.ai.proto)) x).1,k,
    if(cX (s.po (aH f.ai.proto)) (k.ca (aH f.ai.proto)) x).2.2.done=false then {f with again:=some (cX (s.po (aH f.ai.proto)) (k.ca (aH f.ai.proto)) x).2.2}
    else if(cX (s.po (aH f.ai.proto)) (k.ca (aH f.ai.proto)) x).2.2.dE.alike=true then {f with again:=some (cX (s.po (aH f.ai.proto)) (k.ca (aH f.ai.proto)) x).2.2}.fin [] 8
    else {f with again:=some (cX (s.po (aH f.ai.proto)) (k.ca (aH f.ai.proto)) x).2.2}.vI c k)
  |none=>(s,k,f)
 else if f.next=9 then
  (s,k,{f with id:=((aH f.ai.proto*c.np+nY (k.ca (aH f.ai.proto)):Nat):Int),word:=bI s ((aH f.ai.proto*c.np+nY (k.ca (aH f.ai.proto)):Nat):Int),next:=10})
 else if f.next=10 then(oO s f.id f.ai,k,{f with next:=11})
 else
  let now:bH:=⟨1,(f.word.gen+1)%65536,mw f.ai.proto 0 true f.part.flags,f.tick.toNat⟩
  if jR s f.id f.word now=true then
   (bL s f.id f.word now,k.cK (aH f.ai.proto) {k.ca (aH f.ai.proto)with l:=(k.ca (aH f.ai.proto)).l.take ((k.ca (aH f.ai.proto)).l.length-1)},
    {f with word:=now,made:=true,iJ:=f.id.toNat,enter:=some (kH c 1 f.ai f.id 0),next:=12})
  else(s,k,{f with next:=9})
def fN (k:aK)(proto:Nat)(id:Int)(w:bH)(tick:Int):aK:=
 if proto≠6 then(if w.sn+jZ proto w.tr≤4294967295 then {k with aD:=nA k.aD id (w.sn+jZ proto w.tr)}else k)
 else if tick≤4294967295 then {k with aD:=nA k.aD id tick.toNat}else k
def iL (l:List (Int×dU))(i:Int)(f:dU):List (Int×dU):=if l.any (fun p=>p.1=i)then l.map (fun p=>if p.1=i then(i,f)else p)else l++[(i,f)]
def fQ (c:NC)(s:aW)(k:aK)(f:aM):aW×aK×aM:=
 if f.next=12 then
  match f.enter with
  |some t=>({s with tb:=(bO s.pl c.nb s.tb t).1},k,if(bO s.pl c.nb s.tb t).2.done=false then {f with enter:=some (bO s.pl c.nb s.tb t).2}else {f with enter:=some (bO s.pl c.nb s.tb t).2,next:=if(bO s.pl c.nb s.tb t).2.end_=0 then 13 else 14})
  |none=>(s,k,f)
 else if f.next=13 then
  (bL s f.id f.word {f.word with st:=2},fN {k with aS:=iL k.aS f.id f.ai} (fx (f.id.toNat/c.np)) f.id f.word f.tick,f.goes c f.id)
 else
  match f.enter with
  |some t=>(bL s f.id f.word {f.word with st:=0},k.cK (aH f.ai.proto) (fO c.np (k.ca (aH f.ai.proto)) (f.id.toNat%c.np)).1,
    if t.end_=10 then {f with made:=false}.jW t.found t.aP else {f with made:=false}.fin [] 9)
  |none=>(s,k,f)
def gW (c:NC)(s:aW)(f:aM):aW×aM:=
 if f.next=15 then(s,if(bI s f.id).st≠2 then {f with word:=bI s f.id,next:=16}.fin [] 7 else {f with word:=bI s f.id,next:=16})
 else if f.next=16 then(s,{f with eH:=ox (qC s f.id),now:=f.jL f.word,next:=17})
 else if f.now=f.word then(s,if bI s f.id=f.word then {f with next:=15}.fin (kF f.b false f.eH.addr f.eH.port) (y9 f.b)else {f with next:=15})
 else(bL s f.id f.word f.now,if jR s f.id f.word f.now=true then {f with next:=15}.fin (kF f.b false f.eH.addr f.eH.port) (y9 f.b)else {f with next:=15})
def c7 (c:NC)(w:Nat)(s:aW)(k:aK)(f:aM):aW×aK×aM:=
 if f.next=0 then(s,k,pN c w f)
 else if f.next=1 then
  match f.cb with
  |some e=>({s with ep:=(cv c.n s.ep e).1},k,if(cv c.n s.ep e).2.done=false then {f with cb:=some (cv c.n s.ep e).2}
    else if f.out=true then {f with cb:=some (cv c.n s.ep e).2,pinned:=true}.look c else {f with cb:=some (cv c.n s.ep e).2,pinned:=true,next:=15})
  |none=>(s,k,f)
 else if f.next≤5 then((gG c s k f).1,k,(gG c s k f).2)
 else if f.next≤11 then cM c s k f
 else if f.next≤14 then fQ c s k f
 else if f.next≤17 then((gW c s f).1,k,(gW c s f).2)
 else({s with ep:=s.ep.set (1+w) 0},k,{f with pinned:=false,done:=true})
def lM (tick:Int):cI:=⟨tick,0,[],w0,none, -1,none,[],none,false⟩
def qh (l:List (Int×dU))(i:Int):List (Int×dU):=l.filter fun p=>p.1≠i
def getM (l:List (Int×dU))(i:Int):dU:=match l.find? fun p=>p.1=i with|some p=>p.2|none=>ow
def ie (c:NC)(w:Nat)(s:aW)(k:aK)(x:cI):aW×aK×cI:=
 if x.next=1∧x.due=[]then(s,k,{x with on:=some ⟨0,true,0,0,false,false⟩,next:=5})
 else
  let id:=x.due.getD 0 0
  if x.next=1 then
   if(((bI s (id:Int)).sn+jZ (fx (id/c.np)) (bI s (id:Int)).tr:Nat):Int)>x.tick then
    (s,fN k (fx (id/c.np)) (id:Int) (bI s (id:Int)) x.tick,{x with word:=bI s (id:Int),due:=x.due.drop 1})
   else(s,k,{x with word:=bI s (id:Int),next:=2})
  else if x.next=2 then
   if jR s (id:Int) x.word {x.word with st:=3}=true then
    (bL s (id:Int) x.word {x.word with st:=3},{k with ended:=k.ended++[((fx (id/c.np):Int),((c.lo+id%c.np:Nat):Int))]},{x with dying:=(id:Int),next:=3,drop:=some (kH c 2 (getM k.aS (id:Int)) (id:Int) 23)})
   else(s,k,{x with next:=1})
  else if x.next=3 then
   match x.drop with
   |some t=>({s with tb:=(bO s.pl c.nb s.tb t).1},k,{x with drop:=some (bO s.pl c.nb s.tb t).2,next:=if(bO s.pl c.nb s.tb t).2.done=true then 4 else 3})
   |none=>(s,k,x)
  else({s with gs:=s.gs.set w (s.gs.getD w []++[(id,s.ep.getD 0 0)])},{k with aS:=qh k.aS (id:Int)},{x with dying:= -1,due:=x.due.drop 1,next:=1})
def ew (k:aK):Nat:=if(match k.c2.out with|some o=>decide (o.parts.any fun p=>p.2≠0)|none=>false)=true then 2 else if(match k.c1.out with|some o=>decide (o.parts.any fun p=>p.2≠0)|none=>false)=true then 1 else 0
def dO (c:NC)(s:aW)(k:aK)(x:cI):aW×aK×cI:=
 if x.next=7 then
  if x.aI=[]then(s,k,{x with done:=true})else(s,k,{x with word:=bI s ((x.aI.getD 0 0:Nat):Int),next:=8})
 else if x.next=8 then
  let id:=x.aI.getD 0 0
  (bL s (id:Int) x.word {x.word with st:=0},k.cK (id/c.np) (fO c.np (k.ca (id/c.np)) (id%c.np)).1,{x with aI:=x.aI.drop 1,back:=some (fO c.np (k.ca (id/c.np)) (id%c.np)).2,next:=9})
 else
  match x.back with
  |some b=>(s.eV (ew k) (cX (s.po (ew k)) (k.ca (ew k)) b).1,k.cK (ew k) (cX (s.po (ew k)) (k.ca (ew k)) b).2.1,{x with back:=some (cX (s.po (ew k)) (k.ca (ew k)) b).2.2,next:=if(cX (s.po (ew k)) (k.ca (ew k)) b).2.2.done=true then 7 else 9})
  |none=>(s,k,x)
def cg (c:NC)(w:Nat)(s:aW)(k:aK)(x:cI):aW×aK×cI:=
 if x.next=0 then(s,{k with aD:=(fP k.aD x.tick).2},{x with due:=x.due++(iZ (fP k.aD x.tick).1).map fun y=>y.id.toNat,next:=1})
 else if x.next≤4 then ie c w s k x
 else if x.next=5 then
  match x.on with
  |some e=>({s with ep:=(cv c.n s.ep e).1},k,{x with on:=some (cv c.n s.ep e).2,next:=if(cv c.n s.ep e).2.done=true then 6 else 5})
  |none=>(s,k,x)
 else if x.next=6 then({s with gs:=s.gs.set w (kK (s.ep.getD 0 0) (s.gs.getD w []))},k,{x with aI:=x.aI++(fS (s.ep.getD 0 0) (s.gs.getD w [])).map (·.1),next:=7})
 else dO c s k x
def aK.busy (k:aK):Bool:=k.frame.isSome||k.aC.isSome
def al:aK:=ln 0
def bX (c:NC)(w:Nat)(n:cH):cH×Bool:=
 if n.wk.length≤w then(n,true)
 else
  match(n.wk.getD w al).frame with
  |some f=>
   let r:=c7 c w n.sh (n.wk.getD w al) f
   let k:aK:=if r.2.2.done=true then {r.2.1 with bt:=r.2.2.gD,fh:=r.2.2.oo,any:=true,frame:=none}else {r.2.1 with frame:=some r.2.2}
   (⟨r.1,n.wk.set w k⟩, !k.busy)
  |none=>
   match(n.wk.getD w al).aC with
   |some x=>
    let r:=cg c w n.sh (n.wk.getD w al) x
    let k:aK:=if r.2.2.done=true then {r.2.1 with aC:=none}else {r.2.1 with aC:=some r.2.2}
    (⟨r.1,n.wk.set w k⟩, !k.busy)
   |none=>(n,true)
end
section
def One (a b:List Nat):Prop:=b=a∨∃i v,b=a.set i v
theorem One.refl {a:List Nat}:One a a:= .inl rfl
theorem One.set {a:List Nat}{i v:Nat}:One a (a.set i v):= .inr ⟨i,v,rfl⟩
theorem One.len {a b:List Nat}(h:One a b):b.length=a.length:=by
 rcases h with rfl|⟨i,v,rfl⟩
 ·rfl
 ·exact List.length_set
theorem One.left {a b c:List Nat}(h:One a b):One (a++c) (b++c):=by
 rcases h with rfl|⟨i,v,rfl⟩
 ·exact .inl rfl
 ·by_cases hi:i<a.length
  ·exact .inr ⟨i,v,by rw[List.set_append_left _ _ hi]⟩
  ·rw[List.set_eq_of_length_le (by omega)];exact .inl rfl
theorem One.right {a b c:List Nat}(h:One a b):One (c++a) (c++b):=by
 rcases h with rfl|⟨i,v,rfl⟩
 ·exact .inl rfl
 ·exact .inr ⟨c.length+i,v,by rw[List.set_append_right _ _ (by omega),show c.length+i-c.length=i by omega]⟩
def zY (s:aW):List Nat:=s.pl++s.tb++s.p0++s.p1++s.p2++s.ep
structure cn (s s':aW):Prop where
 one:One (zY s) (zY s')
section
variable {s s':aW} {l:List Nat}
theorem cn.same (h0:s'.pl=s.pl)(h1:s'.tb=s.tb)(h2:s'.p0=s.p0)(h3:s'.p1=s.p1)(h4:s'.p2=s.p2)(h5:s'.ep=s.ep):cn s s':=⟨by unfold zY;rw[h0,h1,h2,h3,h4,h5];exact One.refl⟩
theorem cn.refl:cn s s:=⟨One.refl⟩
theorem cn.pl (h:One s.pl l):cn s {s with pl:=l}:=⟨h.left.left.left.left.left⟩
theorem cn.tb (h:One s.tb l):cn s {s with tb:=l}:=⟨h.right.left.left.left.left⟩
theorem cn.ep (h:One s.ep l):cn s {s with ep:=l}:=⟨h.right⟩
theorem cn.po {i:Nat}(h:One (s.po i) l):cn s (s.eV i l):=by
 unfold aW.po at h
 unfold aW.eV
 split
 ·rename_i e;rw[if_pos e]at h;exact⟨h.right.left.left.left⟩
 ·rename_i e
  rw[if_neg e]at h
  split
  ·rename_i e;rw[if_pos e]at h;exact⟨h.right.left.left⟩
  ·rename_i e;rw[if_neg e]at h;exact⟨h.right.left⟩
theorem cn.Xd {i:Nat}(h:One (s.po i) l):cn s {s.eV i l with tb:=s.tb}:=by
 have e:{s.eV i l with tb:=s.tb}=s.eV i l:=by
  unfold aW.eV
  repeat' split
  all_goals rfl
 rw[e];exact cn.po h
theorem cn.bL {id:Int}{a b:bH}:cn s (bL s id a b):=by
 unfold Go.Proofs.YtfkngchldmfpfaaGreatDoor.bL
 split
 ·exact cn.pl One.set
 ·exact cn.refl
theorem cn.oO {id:Int}{f:dU}:cn s (oO s id f):=cn.pl One.set
end
section
variable {ws pl cs:List Nat} {n:Nat}
theorem BC {s:aT}:One cs (bO pl n cs s).1:=by
 unfold bO
 split
 ·exact One.refl
 split
 ·unfold rk
  repeat' split
  all_goals first|exact One.refl|exact One.set
 split
 ·unfold gS
  repeat' split
  all_goals first|exact One.refl|skip
  unfold xB
  repeat' split
  all_goals first|exact One.refl|exact One.set
 split
 ·unfold cu
  repeat' split
  all_goals first|exact One.refl|exact One.set
 ·unfold iX
  repeat' split
  all_goals first|exact One.refl|exact One.set
theorem K0 {s:jg}:One ws (cv n ws s).1:=by
 unfold cv nE nF
 repeat' split
 all_goals first|exact One.refl|exact One.set
theorem WN {s:bM}:One ws (bp ws s).1:=by
 unfold bp kf qJ lY
 repeat' split
 all_goals first|exact One.refl|exact One.set
theorem Fs {c:dH}{s:jN}:One ws (cX ws c s).1:=by
 unfold cX
 repeat' split
 all_goals first|exact One.refl|exact WN
end
section
variable {c:NC} {w:Nat} {s:aW} {k:aK} {f:aM} {x:cI}
theorem WQ:cn s (c7 c w s k f).1:=by
 unfold c7
 split
 ·exact cn.refl
 split
 ·split
  ·exact cn.ep K0
  ·exact cn.refl
 split
 ·unfold gG
  repeat' split
  all_goals first|exact cn.refl|exact cn.tb BC|exact cn.bL
 split
 ·unfold cM
  repeat' split
  all_goals first|exact cn.refl|exact cn.tb BC|exact cn.Xd Fs|exact cn.po Fs|exact cn.oO|exact cn.bL|skip
  dsimp only
  split
  ·exact cn.bL
  ·exact cn.refl
 split
 ·unfold fQ
  repeat' split
  all_goals first|exact cn.refl|exact cn.tb BC|exact cn.bL
 split
 ·unfold gW
  repeat' split
  all_goals first|exact cn.refl|exact cn.bL
 ·exact cn.ep One.set
theorem WR:cn s (cg c w s k x).1:=by
 unfold cg
 split
 ·exact cn.refl
 split
 ·unfold ie
  dsimp only
  repeat' split
  all_goals first|exact cn.refl|exact cn.tb BC|exact cn.bL|exact cn.same rfl rfl rfl rfl rfl rfl
 split
 ·split
  ·exact cn.ep K0
  ·exact cn.refl
 split
 ·exact cn.same rfl rfl rfl rfl rfl rfl
 ·unfold dO
  dsimp only
  repeat' split
  all_goals first|exact cn.refl|exact cn.po Fs|exact cn.bL
theorem WO {n:cH}:cn n.sh (bX c w n).1.sh:=by
 unfold bX
 split
 ·exact cn.refl
 split
 ·exact WQ
 split
 ·exact WR
 ·exact cn.refl
end
def jz:List Nat→List Nat→Nat
 |a::l,b::m=>(if a=b then 0 else 1)+jz l m
 |[],m=>m.length
 |l,[]=>l.length
theorem Ad:∀l:List Nat,jz l l=0
 |[]=>rfl
 |a::l=>by unfold jz;rw[if_pos rfl,Ad l]
theorem Il:∀(l:List Nat) (i v:Nat),jz l (l.set i v)≤1
 |[],_,_=>Nat.zero_le _
 |a::l,0,v=>by
  show jz (a::l) (v::l)≤1
  unfold jz
  rw[Ad l]
  split<;>omega
 |a::l,i+1,v=>by
  show jz (a::l) (a::l.set i v)≤1
  unfold jz
  rw[if_pos rfl,Nat.zero_add]
  exact Il l i v
theorem One.diff {a b:List Nat}(h:One a b):jz a b≤1:=by
 rcases h with rfl|⟨i,v,rfl⟩
 ·rw[Ad];exact Nat.zero_le _
 ·exact Il _ _ _
end
section
open Go.RowKit
set_option maxRecDepth 10000
attribute [local irreducible] EK EX ER EN EL ES EG an aR aU
variable {W:World} {F:SL} {X:Cx} {k:List KI} {σ:Env}
theorem IJ {f:Nat}(h:f<256):bits .and .i64 (f:Int) 4=((f/4%2*4:Nat):Int)∧bits .and .i64 (f:Int) 1=((f%2:Nat):Int)∧bits .and .i64 (f:Int) 2=((f/2%2*2:Nat):Int)∧bits .and .i64 (f:Int) 16=((f/16%2*16:Nat):Int)∧
  bits .and .i64 (f:Int) 18=((f/2%2*2+f/16%2*16:Nat):Int)∧bits .and .i64 (f:Int) 23=((f%2+f/2%2*2+f/4%2*4+f/16%2*16:Nat):Int):=by
 have e:∀m:Nat,m<256→bits .and .i64 (f:Int) (m:Int)=((f&&& m:Nat):Int):=fun m hm=>EV f m (by omega) (by omega)
 have d:∀f:Fin 256,(f.val&&& 4=f.val/4%2*4)∧(f.val&&& 1=f.val%2)∧(f.val&&& 2=f.val/2%2*2)∧(f.val&&& 16=f.val/16%2*16)∧(f.val&&& 18=f.val/2%2*2+f.val/16%2*16)∧(f.val&&& 23=f.val%2+f.val/2%2*2+f.val/4%2*4+f.val/16%2*16):=by decide+kernel
 obtain⟨d1,d2,d3,d4,d5,d6⟩:=d ⟨f,h⟩
 dsimp only at d1 d2 d3 d4 d5 d6
 have e4:=e 4 (by decide);have e1:=e 1 (by decide);have e2:=e 2 (by decide);have Iq:=e 16 (by decide);have Ir:=e 18 (by decide);have Is:=e 23 (by decide)
 rw[d1]at e4;rw[d2]at e1;rw[d3]at e2;rw[d4]at Iq;rw[d5]at Ir;rw[d6]at Is
 exact⟨e4,e1,e2,Iq,Ir,Is⟩
theorem RT (s:Nat)(out:Bool)(h:s≤4):Spec Tryz.prog 222 [.int .i64 (s:Int),.bool out] W F (fun _:Unit=> .int .i64 (Dk s out:Int)) (fun _=>F):=by
 refine Spec.of Tryz.func222 rfl Tryz.ntmps222 rfl ?_
 have hc:s=0∨s=1∨s=2∨s=3∨s=4:=by omega
 rcases hc with rfl|rfl|rfl|rfl|rfl<;>cases out
 all_goals
  refine aa ?_;intros
  exact ae (aj rfl rfl () rfl (U.sat (ab)))
theorem CM (proto s flags:Nat)(out:Bool)(h:s≤4)(hf:flags<256)(hp:proto<256):Spec Tryz.prog 172 [.int .i64 (proto:Int),.int .i64 (s:Int),.bool out,.int .i64 (flags:Int)] W F (fun _:Unit=> .int .i64 (mw proto s out flags:Int)) (fun _=>F):=by
 refine Spec.of Tryz.func172 rfl Tryz.ntmps172 rfl ?_
 obtain⟨f4,f1,_,f16,f18,_⟩:=IJ hf
 have e0:mw proto s out flags=_:=rfl
 conv at e0=>rhs;unfold mw
 by_cases g1:proto≠6
 ·rw[if_pos g1]at e0
  rw[e0]
  refine aa ?_;intros
  exact ae (aj rfl rfl () rfl (U.sat (ab)))
 rw[if_neg g1]at e0
 by_cases g2:flags/4%2=1
 ·rw[if_pos g2]at e0
  rw[e0]
  refine aa ?_;intros
  exact ae (aj rfl rfl () rfl (U.sat (ab)))
 rw[if_neg g2]at e0
 by_cases g3:flags%2=1
 ·rw[if_pos g3]at e0
  rw[e0]
  refine aa ?_;intros
  refine af rfl (RT s out h) ?_
  intro _
  refine aa ?_;intros
  exact ae (aj rfl rfl () rfl (U.sat (ab)))
 rw[if_neg g3]at e0
 by_cases g4:flags/2%2=1∧flags/16%2=0
 ·cases out with
  |true=>
   by_cases g5:s=4
   ·rw[if_pos ⟨g4,rfl,g5⟩]at e0
    rw[e0]
    refine aa ?_;intros
    exact ae (aj rfl rfl () rfl (U.sat (ab)))
   ·rw[if_neg (fun g=>g5 g.2.2),if_neg (fun g=>by cases g.2.1)]at e0
    rw[e0]
    refine aa ?_;intros
    exact ae (aj rfl rfl () rfl (U.sat (ab)))
  |false=>
   rw[if_neg (fun g=>by cases g.2.1),if_neg (by omega)]at e0
   rw[e0]
   refine aa ?_;intros
   exact ae (aj rfl rfl () rfl (U.sat (ab)))
 rw[if_neg (fun g=>g4 g.1)]at e0
 by_cases g6:flags/16%2=1
 ·cases out with
  |true=>
   rw[if_neg (fun g=>by cases g.2.1)]at e0
   rw[e0]
   refine aa ?_;intros
   exact ae (aj rfl rfl () rfl (U.sat (ab)))
  |false=>
   by_cases g5:s=0
   ·rw[if_pos ⟨g6,rfl,g5⟩]at e0
    rw[e0]
    refine aa ?_;intros
    exact ae (aj rfl rfl () rfl (U.sat (ab)))
   ·rw[if_neg (fun g=>g5 g.2.2)]at e0
    rw[e0]
    refine aa ?_;intros
    exact ae (aj rfl rfl () rfl (U.sat (ab)))
 rw[if_neg (fun g=>g6 g.1)]at e0
 rw[e0]
 refine aa ?_;intros
 exact ae (aj rfl rfl () rfl (U.sat (ab)))
theorem G9 (proto s:Nat)(hp:proto<256)(h:s≤4):Spec Tryz.prog 175 [.int .i64 (proto:Int),.int .i64 (s:Int)] W F (fun _:Unit=> .int .i64 (jZ proto s:Int)) (fun _=>F):=by
 refine Spec.of Tryz.func175 rfl Tryz.ntmps175 rfl ?_
 unfold jZ
 by_cases g1:proto=17
 ·rw[if_pos g1]
  refine aa ?_;intros
  exact ae (aj rfl rfl () rfl (U.sat (ab)))
 rw[if_neg g1]
 by_cases g2:proto=1
 ·rw[if_pos g2]
  refine aa ?_;intros
  exact ae (aj rfl rfl () rfl (U.sat (ab)))
 rw[if_neg g2]
 by_cases g3:proto=6
 ·rw[if_pos g3]
  by_cases g4:s=1
  ·rw[if_pos g4]
   refine aa ?_;intros
   exact ae (aj rfl rfl () rfl (U.sat (ab)))
  ·rw[if_neg g4]
   refine aa ?_;intros
   exact ae (aj rfl rfl () rfl (U.sat (ab)))
 rw[if_neg g3]
 refine aa ?_;intros
 exact ae (aj rfl rfl () rfl (U.sat (ab)))
theorem PI (proto:Nat)(out:Bool):Spec Tryz.prog 178 [.int .i64 (proto:Int),.bool out] W F (fun _:Unit=> .bool (oN proto out)) (fun _=>F):=by
 refine Spec.of Tryz.func178 rfl Tryz.ntmps178 rfl ?_
 by_cases g1:proto=6
 ·rw[show oN proto out=true by simp[oN,g1]]
  refine aa ?_;intros
  exact ae (aj rfl rfl () rfl (U.sat (ab)))
 by_cases g2:proto=17
 ·rw[show oN proto out=out by simp[oN,g2]]
  refine aa ?_;intros
  exact ae (aj rfl rfl () rfl (U.sat (ab)))
 by_cases g3:proto=1
 ·rw[show oN proto out=out by simp[oN,g3]]
  refine aa ?_;intros
  exact ae (aj rfl rfl () rfl (U.sat (ab)))
 rw[show oN proto out=false by simp[oN,g1,g2,g3]]
 refine aa ?_;intros
 exact ae (aj rfl rfl () rfl (U.sat (ab)))
theorem Qy (kind flags:Nat):nB 6 kind flags=decide (flags/2%2=1∧flags%2=0∧flags/4%2=0∧flags/16%2=0):=by
 unfold nB
 rw[Bool.eq_iff_iff]
 simp[and_assoc]
theorem M5 (proto kind flags:Nat)(hf:flags<256):Spec Tryz.prog 155 [.int .i64 (proto:Int),.int .i64 (kind:Int),.int .i64 (flags:Int)] W F (fun _:Unit=> .bool (nB proto kind flags)) (fun _=>F):=by
 refine Spec.of Tryz.func155 rfl Tryz.ntmps155 rfl ?_
 obtain⟨_,_,_,_,_,f23⟩:=IJ hf
 by_cases g1:proto=17
 ·rw[show nB proto kind flags=true by simp[nB,g1]]
  refine aa ?_;intros
  exact ae (aj rfl rfl () rfl (U.sat (ab)))
 by_cases g2:proto=6
 ·subst g2
  rw[Qy]
  by_cases g4:flags/2%2=1∧flags%2=0∧flags/4%2=0∧flags/16%2=0
  ·rw[decide_eq_true g4]
   refine aa ?_;intros
   exact ae (aj rfl rfl () rfl (U.sat (ab)))
  ·rw[decide_eq_false g4]
   refine aa ?_;intros
   exact ae (aj rfl rfl () rfl (U.sat (ab)))
 by_cases g3:proto=1
 ·by_cases g5:kind=8
  ·rw[show nB proto kind flags=true by simp[nB,g3,g5]]
   refine aa ?_;intros
   exact ae (aj rfl rfl () rfl (U.sat (ab)))
  ·rw[show nB proto kind flags=false by simp[nB,g3,g5]]
   refine aa ?_;intros
   exact ae (aj rfl rfl () rfl (U.sat (ab)))
 rw[show nB proto kind flags=false by simp[nB,g1,g2,g3]]
 refine aa ?_;intros
 exact ae (aj rfl rfl () rfl (U.sat (ab)))
end
section
open Go.RowKit
set_option maxRecDepth 10000
attribute [local irreducible] EK EX ER EN EL ES EG an aR aU
variable {W:World} {F:SL} {X:Cx} {k:List KI} {σ:Env}
abbrev kq (f:dU):List Value:=[.int .i64 (f.proto:Int),.int .u32 (f.addr:Int),.int .u16 (f.port:Int)]
abbrev HN (b:sj):List Value:=[.int .i64 (b.ai.proto:Int),.int .u32 (b.ai.addr:Int),.int .u16 (b.ai.port:Int),.int .i64 (b.port:Int),.int .i64 (b.F7:Int),.int .i64 (b.seen:Int)]
abbrev Xy (h:fL)(p:iq)(e:Nat):Value:= .tuple #[.agg (cT h).toArray,.agg (bR p).toArray,.int .i64 (e:Int)]
abbrev wx (f:dU)(e:Nat):Value:= .tuple #[.agg (kq f).toArray,.int .i64 (e:Int)]
section
variable {p:Option Addr} {c:Nat} {l:List UInt8}
def uZ (l:List UInt8):fL:=if eA l=0 then bo l else ff
def ni (l:List UInt8):iq:=if eA l=0 then fR l else bG
theorem LA (hl:l.length≤140737488355328)[s:Src W F p l.length (ar l)][r:Room W F p l.length c]:Spec Tryz.prog 146 [.slice p l.length c] W F (fun _:Unit=>Xy (uZ l) (ni l) (eA l)) (fun _=>F):=by
 refine Spec.of Tryz.func146 rfl Tryz.ntmps146 rfl ?_
 refine aa ?_;intros
 refine af rfl (DK hl) ?_
 intro _
 by_cases g1:dP false l=0
 ·have g0:=pV.of g1
  have eR:eA l=j9 (bo l) l:=if_pos g1
  rw[mQ g1,g1,if_pos rfl]
  refine aa ?_;intros
  refine af rfl (Fv (bo l) g0) ?_
  intro _
  by_cases g2:j9 (bo l) l=0
  ·have kn:eA l=0:=by rw[eR,g2]
   rw[show pH (bo l) l=fR l from if_pos g2,g2,show uZ l=bo l from if_pos kn,show ni l=fR l from if_pos kn,kn]
   obtain⟨hd,f0⟩:∃x,bo l=x:=⟨_,rfl⟩
   obtain⟨x,f1⟩:∃x,fR l=x:=⟨_,rfl⟩
   rw[f0,f1]
   refine aa ?_;intros
   rename_i x2 x3 _ x5 _ x7
   refine ay 3 (Obj x5 110 (cT hd)*(Obj x7 112 (bR x)*1)) rfl rfl rfl ?_
   refine ah ?_
   refine bD ?_;intros
   refine aa ?_;intros
   exact ae (bu (rs:=[.cell 2 110,.cell 3 112,.tmp 4]) (v:= .agg (cT hd).toArray) (u:= .agg (bR x).toArray) (vs:=[.int .i64 ((0:Nat):Int)]) rfl ⟨⟨_,rfl,aX.agg rfl⟩,⟨_,rfl,aX.agg rfl⟩,rfl,trivial⟩ () rfl (U.sat (ag)))
  ·have kn:¬eA l=0:=by rw[eR];exact g2
   rw[show pH (bo l) l=bG from if_neg g2,show uZ l=ff from if_neg kn,show ni l=bG from if_neg kn,eR]
   refine aa ?_;intros
   exact ae (bu (rs:=[.cell 2 110,.cell 3 112,.tmp 4]) (v:= .agg (cT ff).toArray) (u:= .agg (bR bG).toArray) (vs:=[.int .i64 (j9 (bo l) l:Int)]) rfl ⟨⟨_,rfl,aX.agg rfl⟩,⟨_,rfl,aX.agg rfl⟩,rfl,trivial⟩ () rfl (U.sat (ag)))
 ·have eR:eA l=dP false l:=if_neg g1
  have kn:¬eA l=0:=by rw[eR];exact g1
  rw[mQ (rfl:dP false l=_),if_neg g1,show uZ l=ff from if_neg kn,show ni l=bG from if_neg kn,eR]
  refine aa ?_;intros
  exact ae (bu (rs:=[.cell 2 110,.cell 3 112,.tmp 4]) (v:= .agg (cT ff).toArray) (u:= .agg (bR bG).toArray) (vs:=[.int .i64 (dP false l:Int)]) rfl ⟨⟨_,rfl,aX.agg rfl⟩,⟨_,rfl,aX.agg rfl⟩,rfl,trivial⟩ () rfl (U.sat (ag)))
theorem UQ (h:fL)(x:iq):Spec Tryz.prog 147 [.agg (cT h).toArray,.agg (bR x).toArray] W F (fun _:Unit=> .agg (kq (Bi h x)).toArray) (fun _=>F):=by
 refine Spec.of Tryz.func147 rfl Tryz.ntmps147 rfl ?_
 obtain⟨xp,xs,xd,xf,xk,xc,xe,xi,xo,xb⟩:=x
 cases xe with
 |true=>
  refine aa ?_;intros
  exact ae (lQ (rv:= .cell 4 72) rfl ⟨_,rfl,aX.agg rfl⟩ () rfl (U.sat (ag)))
 |false=>
  refine aa ?_;intros
  exact ae (lQ (rv:= .cell 4 72) rfl ⟨_,rfl,aX.agg rfl⟩ () rfl (U.sat (ag)))
theorem WY (h:fL)(x:iq):Spec Tryz.prog 148 [.agg (cT h).toArray,.agg (bR x).toArray] W F (fun _:Unit=> .agg (kq (BF h x)).toArray) (fun _=>F):=by
 refine Spec.of Tryz.func148 rfl Tryz.ntmps148 rfl ?_
 obtain⟨xp,xs,xd,xf,xk,xc,xe,xi,xo,xb⟩:=x
 cases xe with
 |true=>
  refine aa ?_;intros
  exact ae (lQ (rv:= .cell 4 72) rfl ⟨_,rfl,aX.agg rfl⟩ () rfl (U.sat (ag)))
 |false=>
  refine aa ?_;intros
  exact ae (lQ (rv:= .cell 4 72) rfl ⟨_,rfl,aX.agg rfl⟩ () rfl (U.sat (ag)))
theorem Gf {o:Nat}{out:Bool}{l:List UInt8}{e:Nat}(h:lO o out l=e)(h0:e≠0):wx (tL o out l) (lO o out l)=wx ow e:=by
 unfold tL
 rw[h,if_neg h0]
theorem Mz {o:Nat}{out:Bool}{l:List UInt8}(h:lO o out l=0):wx (tL o out l) (lO o out l)=wx (ed out l) 0:=by
 unfold tL
 rw[h,if_pos rfl]
theorem P3 (hl:l.length≤140737488355328)[s:Src W F p l.length (ar l)][r:Room W F p l.length c](cf:gz)(ho:0≤cf.o)(out:Bool):Spec Tryz.prog 102 [.agg cf.cells.toArray,.bool out,.slice p l.length c] W F (fun _:Unit=>wx (tL cf.o.toNat out l) (lO cf.o.toNat out l)) (fun _=>F):=by
 refine Spec.of Tryz.func102 rfl Tryz.ntmps102 rfl ?_
 have e0:lO cf.o.toNat out l=_:=rfl
 conv at e0=>rhs;unfold lO
 refine aa ?_;intros
 refine af rfl (LA hl) ?_
 intro _
 by_cases g1:¬(eA l=0)
 ·rw[if_pos g1]at e0
  rw[Gf e0 g1,show uZ l=ff from if_neg g1,show ni l=bG from if_neg g1]
  refine aa ?_;intros
  exact ae (bu (rs:=[.cell 6 72,.tmp 7]) (v:= .agg (kq ow).toArray) (u:= .int .i64 (eA l:Int)) (vs:=[]) rfl ⟨⟨_,rfl,aX.agg rfl⟩,rfl,trivial⟩ () rfl (U.sat (ag)))
 have g1:=Decidable.not_not.1 g1
 rw[if_neg (by omega)]at e0
 rw[show uZ l=bo l from if_pos g1,show ni l=fR l from if_pos g1,g1]
 cases out with
 |true=>
  rw[if_neg (fun g=>by cases g.1)]at e0
  rw[Mz e0]
  refine aa ?_;intros
  refine af rfl (UQ (bo l) (fR l)) ?_
  intro _
  refine aa ?_;intros
  exact ae (bu (rs:=[.cell 6 72,.tmp 7]) (v:= .agg (kq (ed true l)).toArray) (u:= .int .i64 ((0:Nat):Int)) (vs:=[]) rfl ⟨⟨_,rfl,aX.agg rfl⟩,rfl,trivial⟩ () rfl (U.sat (ag)))
 |false=>
  have eW:BF (bo l) (fR l)=ed false l:=rfl
  refine aa ?_;intros
  refine af rfl (WY (bo l) (fR l)) ?_
  intro _
  rw[eW]
  by_cases g2:(bo l).dst=cf.o.toNat
  ·by_cases g3:(ed false l).addr=cf.o.toNat
   ·rw[if_neg (fun g=>g.2.elim (fun g=>g g2) (fun g=>g g3))]at e0
    rw[Mz e0]
    refine aa ?_;intros
    exact ae (bu (rs:=[.cell 6 72,.tmp 7]) (v:= .agg (kq (ed false l)).toArray) (u:= .int .i64 ((0:Nat):Int)) (vs:=[]) rfl ⟨⟨_,rfl,aX.agg rfl⟩,rfl,trivial⟩ () rfl (U.sat (ag)))
   ·rw[if_pos ⟨rfl,Or.inr g3⟩]at e0
    rw[Gf e0 (by decide)]
    refine aa ?_;intros
    exact ae (bu (rs:=[.cell 6 72,.tmp 7]) (v:= .agg (kq ow).toArray) (u:= .int .i64 ((7:Nat):Int)) (vs:=[]) rfl ⟨⟨_,rfl,aX.agg rfl⟩,rfl,trivial⟩ () rfl (U.sat (ag)))
  ·rw[if_pos ⟨rfl,Or.inl g2⟩]at e0
   rw[Gf e0 (by decide)]
   refine aa ?_;intros
   exact ae (bu (rs:=[.cell 6 72,.tmp 7]) (v:= .agg (kq ow).toArray) (u:= .int .i64 ((7:Nat):Int)) (vs:=[]) rfl ⟨⟨_,rfl,aX.agg rfl⟩,rfl,trivial⟩ () rfl (U.sat (ag)))
theorem Qw (out:Bool)(l:List UInt8):o5 out l=(out&&(decide (eA l=0)&&(!(fR l).err&&nB (fR l).proto (fR l).kind (fR l).flags))):=by
 unfold o5
 rw[Bool.and_assoc,Bool.and_assoc]
theorem M4 (hl:l.length≤140737488355328)[s:Src W F p l.length (ar l)][r:Room W F p l.length c](out:Bool):Spec Tryz.prog 105 [.bool out,.slice p l.length c] W F (fun _:Unit=> .bool (o5 out l)) (fun _=>F):=by
 refine Spec.of Tryz.func105 rfl Tryz.ntmps105 rfl ?_
 have rg:=sH.of (bo l) l
 rw[Qw]
 refine aa ?_;intros
 refine af rfl (LA hl) ?_
 intro _
 cases out with
 |false=>
  refine aa ?_;intros
  exact ae (aj rfl rfl () rfl (U.sat (ag)))
 |true=>
  by_cases g1:¬(eA l=0)
  ·rw[decide_eq_false g1]
   refine aa ?_;intros
   exact ae (aj rfl rfl () rfl (U.sat (ag)))
  have g1:=Decidable.not_not.1 g1
  rw[decide_eq_true g1,show uZ l=bo l from if_pos g1,show ni l=fR l from if_pos g1,g1]
  change sH (fR l)at rg
  obtain⟨x,f1⟩:∃x,fR l=x:=⟨_,rfl⟩
  rw[f1]at rg ⊢
  have rf:=rg.flags
  obtain⟨xp,xs,xd,xf,xk,xc,xe,xi,xo,xb⟩:=x
  cases xe with
  |true=>
   refine aa ?_;intros
   exact ae (aj rfl rfl () rfl (U.sat (ag)))
  |false=>
   refine aa ?_;intros
   refine af rfl (M5 xp xk xf rf) ?_
   intro _
   refine aa ?_;intros
   exact ae (aj rfl rfl () rfl (U.sat (ag)))
end
end
section
open Go.RowKit
theorem IN {α:Type}(k:Nat)(f:α→List Value)(hf:∀a,(f a).length=k)(d:α):∀(l:List α) (i j:Nat) (_:i<l.length),j<k→(l.flatMap f)[i*k+j]? =(f (l.getD i d))[j]?
 |[],_,_,hi,_=>by simp at hi
 |a::l,0,j,_,hj=>by
  rw[List.flatMap_cons,Nat.zero_mul,Nat.zero_add,List.getElem?_append_left (by rw[hf];exact hj)];rfl
 |a::l,i+1,j,hi,hj=>by
  have h1:(i+1)*k+j=k+(i*k+j):=by rw[Nat.succ_mul];omega
  rw[List.flatMap_cons,h1,List.getElem?_append_right (by rw[hf];omega),hf,Nat.add_sub_cancel_left,IN k f hf d l i j (by simpa using hi) hj]
  rfl
abbrev HM:sj:=⟨ow,0,0,0⟩
def p8 (l:List sj):List Value:=l.flatMap HN
theorem Qt (l:List sj)(b:sj):p8 (l++[b])=p8 l++HN b:=by simp[p8]
end
section
open Go.RowKit
set_option maxRecDepth 10000
attribute [local irreducible] EK EX ER EN EL ES EG an aR aU
variable {W:World} {F:SL} {X:Cx} {k:List KI} {σ:Env}
attribute [local simp] qF
structure lR where
 sw:Bool
 out:Bool
 wt:Int
 lj:Int
 port:Int
 fl:Int
 p:Option Addr
 l:List UInt8
 c:Nat
 jP:Int
 kV:Nat
 tick:Int
abbrev XR (x:lR):List Value:=[.bool x.out,.int .i64 x.wt,.int .i64 x.lj,.int .i64 x.port,.int .i64 x.fl,.slice x.p x.l.length x.c,.int .i64 x.jP,.int .u8 (x.kV:Int),.int .i64 x.tick]
abbrev kB (x:lR):List Value:= .bool x.sw::XR x
structure lR.Ok (W:World)(x:lR):Prop where
 ro:Ro W x.p x.l.length (ar x.l)
 cap:x.l.length≤x.c
 le:x.c≤140737488355328
 kV:x.kV<256
def oH (n:Nat)(f:Nat→lR):List Value:=(List.range n).flatMap fun i=>kB (f i)
theorem U1 {n:Nat}{f:Nat→lR}{i j:Nat}(hi:i<n)(hj:j<10):(oH n f)[i*10+j]? =(kB (f i))[j]? :=by
 unfold oH
 have h:(List.range n).getD i 0=i:=by simp[List.getD_eq_getElem?_getD,hi]
 rw[IN 10 (fun i=>kB (f i)) (fun _=>rfl) 0 (List.range n) i j (by simpa using hi) hj,h]
instance oV.job (n:Nat)(f:Nat→lR)(i:Nat):oV (oH n f) i 10 (kB (f i)) (i<n):=⟨fun h=>⟨rfl,fun j v hv=>by
 have hj:j<10:=(List.getElem?_eq_some_iff.1 hv).1
 rw[U1 h hj];exact hv⟩⟩
theorem xq (x:lR):Spec Tryz.prog 26 [.agg (kB x).toArray] W F (fun _:Unit=> .int .i64 ((um x.tick 20000:Nat):Int)) (fun _=>F):=by
 refine Spec.of Tryz.func26 rfl Tryz.ntmps26 rfl ?_
 have u:=tF x.tick (m:=20000) (by decide) (by decide)
 rw[show((20000:Nat):Int)=20000 from rfl]at u
 refine aa ?_;intros
 rw[u]
 exact ae (aj rfl rfl () rfl (U.sat (ag)))
instance (priority:=90) kR.at (xs:List Value)(i sz j:Nat)(v:Value):kR xs i sz j [v] (xs.set (i*sz+j) v) (i*sz+j<xs.length):=⟨fun h=>by
 refine⟨by simp;omega,?_⟩
 simp only[List.length_cons,List.length_nil,Nat.zero_add]
 rw[List.set_eq_take_append_cons_drop,if_pos h,List.append_assoc,List.singleton_append]⟩
theorem BD {xs:List Value}{i:Nat}{v:Value}(h:dA xs=true)(hv:v.oneCell'=true):dA (xs.set i v)=true:=by
 unfold Go.Proofs.YtfkngchldmfpfaaGreatDoor.dA at h ⊢
 rw[List.all_eq_true]at h ⊢
 intro x hx
 rcases List.mem_or_eq_of_mem_set hx with q|q
 ·exact h x q
 ·rw[q];exact hv
theorem K5 {xs ys:List Value}(h:dA xs=true)(g:dA ys=true):dA (xs++ys)=true:=by
 unfold Go.Proofs.YtfkngchldmfpfaaGreatDoor.dA at h g ⊢
 rw[List.all_append,h,g];rfl
theorem Im:∀(l m:List Nat) (i:Nat),l.length=m.length→i<l.length→jz (l.take (i+1)) (m.take (i+1))=jz (l.take i) (m.take i)+if l.getD i 0=m.getD i 0 then 0 else 1
 |a::l,b::m,0,_,_=>by
  show(if a=b then 0 else 1)+0=0+if a=b then 0 else 1
  omega
 |a::l,b::m,i+1,h,hi=>by
  have:=Im l m i (by simpa using h) (by simpa using hi)
  show(if a=b then 0 else 1)+jz (l.take (i+1)) (m.take (i+1))=(if a=b then 0 else 1)+jz (l.take i) (m.take i)+if l.getD i 0=m.getD i 0 then 0 else 1
  omega
 |[],_,_,_,hi=>by simp at hi
 |_::_,[],_,h,_=>by simp at h
theorem Ik:∀l m:List Nat,l.length=m.length→jz l m≤l.length
 |[],[],_=>Nat.le_refl _
 |a::l,b::m,h=>by
  have:=Ik l m (by simpa using h)
  show(if a=b then 0 else 1)+jz l m≤l.length+1
  split<;>omega
 |[],_::_,h=>by simp at h
 |_::_,[],h=>by simp at h
theorem Rf {p q:Option Addr}{cap H3:Nat}{l m:List Nat}(hl:l.length≤1000000)(Ea:m.length=l.length)[s:Src W F p l.length (ba .u64 l)][s':Src W F q l.length (ba .u64 m)]:Spec Tryz.prog 15 [.slice p l.length cap,.slice q l.length H3] W F (fun _:Unit=> .int .i64 (jz l m:Int)) (fun _=>F):=by
 refine Spec.of Tryz.func15 rfl Tryz.ntmps15 rfl ?_
 refine aa ?_;intros
 refine fy (γ:=Nat) (fun i=>i≤l.length) (fun i=>[(0,.slice p l.length cap),(1,.slice q l.length H3),(5,.int .i64 (jz (l.take i) (m.take i):Int)),(6,.int .i64 (i:Int))]) (fun _=>F) (fun i=>l.length-i) 0 (Nat.zero_le _) ⟨rfl,rfl,rfl,rfl,trivial⟩ (U.sat (U.refl _)) ?_
 intro i h1
 have hd:=Ik (l.take i) (m.take i) (by rw[List.length_take,List.length_take,Ea])
 rw[List.length_take]at hd
 by_cases hi:i<l.length
 ·have hs:=Im l m i Ea.symm hi
  have him:i<m.length:=by omega
  by_cases e:l.getD i 0=m.getD i 0
  ·rw[if_pos e]at hs
   refine aa ?_;intros
   refine jf rfl (by kernel_rfl) ?_
   repeat(refine cD ?_)
   refine aa ?_;intros
   rw[e]
   refine aa ?_;intros
   exact cJ (i+1) (by omega) (by omega) ⟨rfl,rfl,by rw[hs,Nat.add_zero];rfl,rfl,trivial⟩ (U.sat (U.refl _))
  ·rw[if_neg e]at hs
   refine aa ?_;intros
   refine jf rfl (by kernel_rfl) ?_
   repeat(refine cD ?_)
   refine aa ?_;intros
   exact cJ (i+1) (by omega) (by omega) ⟨rfl,rfl,by rw[hs];rfl,rfl,trivial⟩ (U.sat (U.refl _))
 ·have e:i=l.length:=by omega
  subst e
  rw[List.take_length,show m.take l.length=m by rw[←Ea];exact List.take_length]
  refine aa ?_;intros
  exact ae (aj rfl rfl () rfl (U.sat (U.refl _)))
end
end Go.Proofs.YtfkngchldmfpfaaGreatDoor
