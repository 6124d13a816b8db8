/- The arena's calls: what each does to a block. No condition. -/
import Derived.Test.YtjigacanjlppiaaGreatDoorQ3
set_option linter.all false
set_option maxRecDepth 1000000
open Go.IntKind (wrap)
namespace Go.Ev
open Go.Proofs
theorem bw {a:Addr}{K:Addr→Prop}(h:K a):bE (some a) K:=h
theorem cW {x:OA}{a:Addr}{K:Addr→Prop}(e:x=some a)(h:K a):bE x K:=e▸h
theorem dh {α:Type}{x:α}{K:α→Prop}(h:∀y,y=x→K y):gi x K:=h x rfl
abbrev N:Nat→Prop:=fun _=>False
theorem mJ {sz:Nat}{h h':Hp}{a:OA}{n c b:Nat}{vs:LV}{S:Nat→Prop}(s:kM sz h a n c (some b) vs) (k:bY S h h') (hb:¬S b):kM sz h' a n c (some b) vs :=
 s.eG fun b' e=>by obtain rfl:=bt e;exact k.2 b s.lt hb
theorem ir {sz:Nat}{h h':Hp}{a:OA}{n c:Nat}{ob:Option Nat}{vs:LV}{S:Nat→Prop}(s:kM sz h a n c ob vs)(k:bY S h h')(hb:∀b,ob=some b→¬S b):kM sz h' a n c ob vs:=by
 cases ob with
 |none=>exact s.eG nofun
 |some b=>exact mJ s k (hb b rfl)
structure jt where
 pb:Nat
 wb:Nat
 fb:Nat
def jt.fp(L:jt)(b:Nat):Prop:=b=L.pb∨b=L.wb∨b=L.fb
structure rR (h:Hp) (L:jt) (sz:Nat) (os:List dg) (wc fc:Nat) (fs:LN):Prop where
 row:eM h L.pb [vi sz,.slice (sa L.wb) (cZ os) wc,.slice (sa L.fb) fs.length fc]
 ws:kM 1 h (sa L.wb) (cZ os) wc (some L.wb) ((eQ os).map uv)
 OI:kM 1 h (sa L.fb) fs.length fc (some L.fb) (fs.map uv)
 first:qL fs os
 ok:∀o∈os,o.Ok
 u:cZ os≤sz
 s:sz≤1048576
 fl:fs.length*64<cZ os+64
 d1:L.pb≠L.wb
 d2:L.pb≠L.fb
 d3:L.wb≠L.fb
def Ar(h:Hp)(L:jt)(sz:Nat)(os:List dg):Prop:=∃wc fc fs,rR h L sz os wc fc fs
def qX(os:List dg)(iL:Int):Option Nat:=if 0≤iL then zB os iL.toNat else none
theorem iD(os:List dg)(n:Nat):qX os (n:Int)=zB os n:=by unfold qX;simp
theorem B7 {os:List dg}{iL:Int}{i:Nat}(h:qX os iL=some i):∃o,os[i]?=some o∧iL=(pos os i:Int):=by
 unfold qX at h
 split at h
 ·rename_i h0
  obtain⟨h1,h2⟩:=jL.1 h
  exact⟨_,br h1,by omega⟩
 ·cases h
section
variable {h h':Hp} {L:jt} {sz:Nat} {os:List dg} {wc fc:Nat} {fs:LN}
theorem rR.eG(r:rR h L sz os wc fc fs){S:Nat→Prop}(k:bY S h h')(hS:∀b,L.fp b→¬S b):rR h' L sz os wc fc fs :=
 ⟨bF k r.row (hS _ (.inl rfl)),mJ r.ws k (hS _ (.inr (.inl rfl))),mJ r.OI k (hS _ (.inr (.inr rfl))),r.first,r.ok,r.u,r.s,r.fl,r.d1,r.d2,r.d3⟩
theorem Ar.eG(r:Ar h L sz os){S:Nat→Prop}(k:bY S h h')(hS:∀b,L.fp b→¬S b):Ar h' L sz os:=by
 obtain⟨wc,fc,fs,r⟩:=r
 exact⟨wc,fc,fs,r.eG k hS⟩
theorem rR.lt(r:rR h L sz os wc fc fs):∀b,L.fp b→b<h.size:=by
 rintro b (rfl|rfl|rfl)
 ·exact eE r.row
 ·exact r.ws.lt
 ·exact r.OI.lt
theorem Ar.lt(r:Ar h L sz os):∀b,L.fp b→b<h.size:=by obtain⟨wc,fc,fs,r⟩:=r;exact r.lt
theorem rR.c0(r:rR h L sz os wc fc fs):cell h (ad L.pb)=some (vi sz):=RY r.row
theorem rR.c1(r:rR h L sz os wc fc fs):cell h ((ad L.pb).add 1)=some (.slice (sa L.wb) (cZ os) wc):=by rw [cm,bS r.row];rfl
theorem rR.c2(r:rR h L sz os wc fc fs):cell h ((ad L.pb).add 2)=some (.slice (sa L.fb) fs.length fc):=by rw [cm,bS r.row];rfl
theorem rR.Ur(r:rR h L sz os wc fc fs){i w:Nat}(hw:(eQ os)[i]?=some w):cell h ((ad L.wb).add (i*1))=some (uv w):=by
 rw [cm,cQ]
 have hi:=(bp.1 hw).1
 rw [r.ws.cell (by rw [bA];exact hi),bD,hw]
 rfl
theorem rR.bit(r:rR h L sz os wc fc fs){i w:Nat}(hw:fs[i]?=some w):cell h ((ad L.fb).add (i*1))=some (uv w):=by
 rw [cm,cQ]
 have hi:=(bp.1 hw).1
 rw [r.OI.cell (by rw [bA];exact hi),bD,hw]
 rfl
theorem afH {p:Nat}(hp:p<4611686018427387904):wrap .i64 (Int.tdiv (p:Int) (64:Int))=((p / 64:Nat):Int):=by
 rw [yw (by omega),bU (by omega) (by omega)];omega
theorem adO(p:Nat):Int.tmod (p:Int) (64:Int)=((p%64:Nat):Int):=by rw [Dv (by omega)];omega
theorem vy:IntKind.bits .u64=64:=rfl
theorem Ii(r:rR h L sz os wc fc fs){iL:Int}{R:RP}(hR:R (vb (qX os iL).isSome) h):bq PG 179 #[vp (sa L.pb),vi iL] h R:=by
 refine XZ ?_
 unfold aeY
 have hu:=r.u
 have hs:=r.s
 refine ca (fun h0=>?_) fun h0=>?_
 ·obtain⟨p,rfl⟩:=dp (show 0≤iL by omega)
  refine bw ⟨⟨some (ad L.wb),cZ os,wc⟩,r.c1,ca (fun h1=>?_) fun h1=>?_⟩
  ·have h1:p<cZ os:=by have:(p:Int)<(cZ os:Int):=h1;omega
   have o0:=r.first.len
   have C2:p / 64<fs.length:=by omega
   have hw:fs[p / 64]?=some fs[p / 64]:=br C2
   have Wl:=r.first.lt _ (nQ C2)
   refine bw ⟨⟨some (ad L.fb),fs.length,fc⟩,r.c2,?_⟩
   rw [afH (by omega),adO]
   have ah5:cell h ((ad L.fb).add (((p / 64:Nat):Int).toNat*1))=some (vu ((fs[p / 64]:Nat):Int)):=by rw [bu];exact r.bit hw
   refine⟨by omega,⟨by omega,?_⟩,bw ⟨_,ah5,by omega,by omega,?_⟩⟩
   ·show ((p / 64:Nat):Int)<(fs.length:Int);omega
   ·have e:min ((p%64:Nat):Int).toNat (IntKind.bits .u64)=p%64:=by rw [vy];omega
    rw [e,ri,Zo (Nat.lt_of_le_of_lt (Nat.div_le_self _ _) Wl)]
    have hb:=r.first.bit p
    unfold Bx at hb
    rw [bB,hw,mb,pI]at hb
    rw [iD]at hR
    rw [←hb]at hR
    have e2:(((fs[p / 64] / 2 ^ (p%64)%2:Nat):Int)==(1:Int))=decide (fs[p / 64] / 2 ^ (p%64)%2=1):=by
     generalize fs[p / 64] / 2 ^ (p%64)%2=x
     rw [rN,beq_iff_eq,decide_eq_true_eq];omega
    rw [e2]
    exact hR
  ·have h1:cZ os≤p:=by have:¬(p:Int)<(cZ os:Int):=h1;omega
   rw [iD,xJ h1]at hR
   exact hR
 ·have:qX os iL=none:=by
   unfold qX
   split
   ·have:iL.toNat=0:=by omega
    rw [this,Wi]
   ·rfl
  rw [this]at hR
  exact hR
theorem ru(r:rR h L sz os wc fc fs){R:RP}(hR:R (vi sz) h):bq PG 85 #[vp (sa L.pb)] h R:=by
 refine abQ ?_
 unfold anR
 exact bw ⟨_,r.c0,hR⟩
theorem nC(r:rR h L sz os wc fc fs){R:RP}(hR:R (vi (cZ os:Nat)) h):bq PG 86 #[vp (sa L.pb)] h R:=by
 refine abP ?_
 unfold anQ
 exact bw ⟨⟨_,_,_⟩,r.c1,hR⟩
theorem DJ {w:Nat}(h:w<9223372036854775808):ot .u64 (w:Int) (9223372036854775808:Int)=0:=by
 rw [Io (by omega) (by omega),if_pos (by omega)]
theorem Bk {w:Nat}(h:9223372036854775808≤w)(h1:w<18446744073709551616):ot .u64 (w:Int) (9223372036854775808:Int)=9223372036854775808:=by
 rw [Io (by omega) (by omega),if_neg (by omega)]
def xF(os:List dg)(iL:Int):Value :=
 match(qX os iL).bind (os[·]?)with
 |none=>vt #[vi 0,vi 0,vi 0,vi 23]
 |some o=>match o.rQ with
  |some _=>vt #[vi 0,vi 0,vi 0,vi 26]
  |none=>vt #[vi (o.kind:Int),vi (o.cY.length:Int),vi (o.cN.length:Int),vi 0]
theorem rR.R3(r:rR h L sz os wc fc fs){i:Nat}{o:dg}(ho:os[i]?=some o):(0:Int)≤(pos os i:Int)∧(pos os i:Int)<(cZ os:Int):=by
 have:=xD (bp.1 ho).1
 omega
theorem qz(r:rR h L sz os wc fc fs){iL:Int}{R:RP}(hR:R (xF os iL) h):bq PG 136 #[vp (sa L.pb),vi iL] h R:=by
 refine Yq ?_
 unfold afi
 refine Ii r ⟨_,rfl,?_⟩
 cases hi:qX os iL with
 |none =>
  unfold xF at hR
  rw [hi]at hR
  exact hR
 |some i =>
  obtain⟨o,ho,rfl⟩:=B7 hi
  have Dn:=r.ok o (bx ho)
  have hb:=r.R3 ho
  have hw:cell h ((ad L.wb).add ((pos os i:Int).toNat*1))=some (vu (o.head:Int)):=by
   rw [bu];exact r.Ur (BK ho)
  unfold xF at hR
  rw [hi]at hR
  simp only [dX,ho]at hR
  refine cj rfl (bw ⟨⟨some (ad L.wb),cZ os,wc⟩,r.c1,hb,bw ⟨_,hw,?_⟩⟩)
  cases hf:o.rQ with
  |some t =>
   rw [hf]at hR
   have hl:=Dn.fw t hf
   have hh:o.head=9223372036854775808+t:=by unfold dg.head;rw [hf]
   exact cr (by rw [hh,Bk (by omega) (by omega)];rfl) hR
  |none =>
   rw [hf]at hR
   obtain⟨h1,h2⟩:=dg.Ai Dn hf
   refine cj (by rw [DJ h2];rfl) (bw ⟨⟨some (ad L.wb),cZ os,wc⟩,r.c1,hb,bw ⟨_,hw,?_⟩⟩)
   rw [h1]
   exact UR Dn.k1 Dn.k2 Dn.nr Dn.nw ⟨_,_,_,_,rfl,hR⟩
def Aa(os:List dg)(iL:Int):Value :=
 match(qX os iL).bind (os[·]?)with
 |none=>vt #[vi 0,vb false,vi 23]
 |some o=>match o.rQ with
  |some t=>vt #[vi (t:Int),vb true,vi 0]
  |none=>vt #[vi 0,vb false,vi 0]
theorem K3(r:rR h L sz os wc fc fs){iL:Int}{R:RP}(hR:R (Aa os iL) h):bq PG 181 #[vp (sa L.pb),vi iL] h R:=by
 refine XX ?_
 unfold aeW
 refine Ii r ⟨_,rfl,?_⟩
 cases hi:qX os iL with
 |none =>
  unfold Aa at hR
  rw [hi]at hR
  exact hR
 |some i =>
  obtain⟨o,ho,rfl⟩:=B7 hi
  have Dn:=r.ok o (bx ho)
  have hb:=r.R3 ho
  have hw:cell h ((ad L.wb).add ((pos os i:Int).toNat*1))=some (vu (o.head:Int)):=by
   rw [bu];exact r.Ur (BK ho)
  unfold Aa at hR
  rw [hi]at hR
  simp only [dX,ho]at hR
  refine cj rfl (bw ⟨⟨some (ad L.wb),cZ os,wc⟩,r.c1,hb,bw ⟨_,hw,?_⟩⟩)
  cases hf:o.rQ with
  |some t =>
   rw [hf]at hR
   have hl:=Dn.fw t hf
   have hh:o.head=9223372036854775808+t:=by unfold dg.head;rw [hf]
   refine cj (by rw [hh,Bk (by omega) (by omega)];rfl) (bw ⟨⟨some (ad L.wb),cZ os,wc⟩,r.c1,hb,bw ⟨_,hw,?_⟩⟩)
   rw [hh,aox (by omega) (by omega),bU (by omega) (by omega)]
   rw [show ((9223372036854775808+t:Nat):Int)-9223372036854775808=(t:Int)by omega]
   exact hR
  |none =>
   rw [hf]at hR
   obtain⟨h1,h2⟩:=dg.Ai Dn hf
   exact cr (by rw [DJ h2];rfl) hR
theorem d9 {x:Int}(h0:-1000000000≤x)(h1:x≤1000000000):wrap .i64 x=x:=bU (by omega) (by omega)
def B5(os:List dg)(iL:Int):Int :=
 match(qX os iL).bind (os[·]?)with
 |none=>23
 |some o=>if o.rQ.isSome then 26 else 0
theorem SP {os:List dg}{iL:Int}(h:B5 os iL=0):∃i o,qX os iL=some i∧os[i]?=some o∧o.rQ=none∧iL=(pos os i:Int)∧xF os iL=vt #[vi (o.kind:Int),vi (o.cY.length:Int),vi (o.cN.length:Int),vi 0]:=by
 unfold B5 at h
 cases hi:qX os iL with
 |none=>rw [hi]at h;simp at h
 |some i =>
  obtain⟨o,ho,ha⟩:=B7 hi
  rw [hi]at h
  simp only [dX,ho]at h
  cases hf:o.rQ with
  |some t=>rw [hf]at h;simp at h
  |none=>exact⟨i,o,rfl,ho,hf,ha,by unfold xF;rw [hi];simp only [dX,ho,hf]⟩
theorem VI {os:List dg}{iL:Int}(h:B5 os iL≠0):xF os iL=vt #[vi 0,vi 0,vi 0,vi (B5 os iL)]:=by
 unfold B5 at h ⊢
 unfold xF
 cases hi:(qX os iL).bind (os[·]?)with
 |none=>rfl
 |some o =>
  rw [hi]at h
  simp only at h ⊢
  cases hf:o.rQ with
  |some t=>rfl
  |none=>rw [hf]at h;simp at h
theorem yO(r:rR h L sz os wc fc fs){iL:Int}{R:RP}(jz:B5 os iL≠0→R (vt #[.slice none 0 0,vi 0,vi (B5 os iL)]) h)
  (mD:∀i o a,B5 os iL=0→qX os iL=some i→os[i]?=some o→o.rQ=none→iL=(pos os i:Int)→(o.fA.length≠0→a=some ⟨L.wb,pos os i+1,none⟩) →
   R (vt #[.slice a o.fA.length o.fA.length,vi (o.cY.length:Int),vi 0]) h):bq PG 182 #[vp (sa L.pb),vi iL] h R:=by
 refine XW ?_
 unfold aeV
 refine qz r ?_
 by_cases he:B5 os iL=0
 ·obtain⟨i,o,hi,ho,hf,ha,hv⟩:=SP he
  rw [hv]
  refine⟨_,_,_,_,rfl,cj rfl (bw ⟨⟨some (ad L.wb),cZ os,wc⟩,r.c1,?_⟩)⟩
  have ZL:=tY ho
  have Dn:=r.ok o (bx ho)
  have hu:=r.u
  have hs:=r.s
  have h1:=(r.ws.row _ rfl).2.1
  have vF:o.size=1+o.cY.length+o.cN.length:=o.AW
  have C2:o.fA.length=o.cY.length+o.cN.length:=by unfold dg.fA;simp
  have hnr:=Dn.nr
  have hnw:=Dn.nw
  have e1:wrap .i64 (iL+1)=((pos os i+1:Nat):Int):=by rw [d9 (by omega) (by omega)];omega
  have e2:wrap .i64 (((pos os i+1:Nat):Int)+(o.cY.length:Int))=((pos os i+1+o.cY.length:Nat):Int):=by rw [d9 (by omega) (by omega)];omega
  have e3:wrap .i64 (((pos os i+1+o.cY.length:Nat):Int)+(o.cN.length:Int))=((pos os i+1+o.fA.length:Nat):Int):=by rw [d9 (by omega) (by omega)];omega
  simp only [e1,e2,e3,bu]
  refine⟨⟨by omega,?_⟩,⟨by omega,by omega⟩,⟨by omega,by omega⟩,?_⟩
  ·show ((pos os i+1+o.fA.length:Nat):Int)≤(wc:Int);omega
  ·have e4:pos os i+1+o.fA.length-(pos os i+1)=o.fA.length:=by omega
   rw [e4]
   refine mD i o _ he hi ho hf ha fun hn=>?_
   rw [if_neg (by omega)]
   simp only [dR,cm,cQ]
 ·rw [VI he]
  exact⟨_,_,_,_,rfl,cr (by simpa using he) (jz he)⟩
def OE(os:List dg)(iL j:Int):Value :=
 match(qX os iL).bind (os[·]?)with
 |none=>vt #[vu 0,vi 23]
 |some o=>match o.rQ with
  |some _=>vt #[vu 0,vi 26]
  |none=>if 0≤j then(match o.fA[j.toNat]? with|some v=>vt #[uv v,vi 0] |none=>vt #[vu 0,vi 24])else vt #[vu 0,vi 24]
theorem rR.fld(r:rR h L sz os wc fc fs){i j:Nat}{o:dg}(ho:os[i]?=some o)(hj:j<o.fA.length):cell h ((⟨L.wb,pos os i+1,none⟩:Addr).add (j*1))=some (uv o.fA[j]):=by
 rw [kD,cQ]
 have:=D4 ho hj
 have h2:=r.Ur (i:=pos os i+1+j) (w:=o.fA[j]) (by rw [this];exact br hj)
 rwa [cm,cQ]at h2
theorem R7(r:rR h L sz os wc fc fs){iL j:Int}{R:RP}(hR:R (OE os iL j) h):bq PG 261 #[vp (sa L.pb),vi iL,vi j] h R:=by
 refine Xw ?_
 unfold aex
 refine yO r (fun he=>?_) fun i o a he hi ho hf ha hp=>?_
 ·refine⟨⟨_,_,_⟩,_,_,rfl,cr (by simpa using he) ?_⟩
  unfold OE at hR
  unfold B5 at he ⊢
  cases hx:(qX os iL).bind (os[·]?)with
  |none=>rw [hx]at hR;exact hR
  |some o =>
   rw [hx]at hR he
   simp only at hR he ⊢
   cases hf:o.rQ with
   |some t=>rw [hf]at hR;exact hR
   |none=>rw [hf]at he;simp at he
 ·refine⟨⟨_,_,_⟩,_,_,rfl,cj rfl ?_⟩
  unfold OE at hR
  rw [hi]at hR
  simp only [dX,ho,hf]at hR
  unfold O2
  refine ca (fun hj=>?_) fun hj=>?_
  ·rw [if_neg (show ¬0≤j by omega)]at hR
   exact hR
  ·obtain⟨k,rfl⟩:=dp (show 0≤j by omega)
   rw [if_pos (by omega),bu]at hR
   refine ca (fun hk=>?_) fun hk=>?_
   ·have:o.fA.length≤k:=by have:(k:Int)≥(o.fA.length:Int):=hk;omega
    rw [bV this]at hR
    exact hR
   ·have hk:k<o.fA.length:=by have:¬(k:Int)≥(o.fA.length:Int):=hk;omega
    rw [br hk]at hR
    refine⟨⟨by omega,?_⟩,cW (hp (by omega)) ⟨_,?_,hR⟩⟩
    ·show (k:Int)<(o.fA.length:Int);omega
    ·rw [bu];exact r.fld ho hk
theorem dg.Ok.iI {o:dg}(h:o.Ok){j v:Nat}(hv:v<18446744073709551616):(o.iI j v).Ok:=by
 have C2:∀x∈(o.iI j v).fA,x<18446744073709551616:=by
  intro x hx
  rw [dg.Ch]at hx
  rcases dB hx with hx|hx
  ·exact h.fl x hx
  ·rw [hx];exact hv
 refine⟨?_,?_,?_,?_,C2,?_⟩<;>unfold dg.iI<;>split
 ·exact h.k1
 ·exact h.k1
 ·exact h.k2
 ·exact h.k2
 ·simp only [cd];exact h.nr
 ·exact h.nr
 ·exact h.nw
 ·simp only [cd];exact h.nw
 ·exact h.fw
 ·exact h.fw
theorem B3 {os:List dg}{i:Nat}{f:dg→dg}(h:∀o∈os,o.Ok)(hf:∀o,o.Ok→(f o).Ok):∀o∈os.modify i f,o.Ok:=by
 intro o ho
 obtain⟨j,hj⟩:=bT.1 ho
 rw [dQ]at hj
 cases hx:os[j]? with
 |none=>rw [hx]at hj;simp at hj
 |some x =>
  rw [hx]at hj
  have hxo:=h x (bx hx)
  have hj:some (if i=j then f x else x)=some o:=hj
  have hj:=bt hj
  subst hj
  split
  ·exact hf x hxo
  ·exact hxo
theorem rR.ago(r:rR h L sz os wc fc fs){p w:Nat}{DB:List dg}(hp:p<cZ os)(hw:eQ DB=(eQ os).set p w) (hf:qL fs DB) (vV:∀o∈DB,o.Ok) :
  gZ h ⟨L.wb,p,none⟩∧rR (fy h ⟨L.wb,p,none⟩ (uv w)) L sz DB wc fc fs∧bY L.fp h (fy h ⟨L.wb,p,none⟩ (uv w)):=by
 have hu:cZ DB=cZ os:=by unfold cZ;rw [hw,cd]
 have o0:p<((eQ os).map uv).length:=by rw [bA];exact hp
 obtain⟨h1,h2⟩:=r.ws.set o0 (uv w)
 refine⟨h1,⟨?_,?_,?_,hf,vV,by rw [hu];exact r.u,r.s,by rw [hu];exact r.fl,r.d1,r.d2,r.d3⟩,gf h p (uv w) (.inr (.inl rfl))⟩
 ·rw [hu];exact nh r.row _ r.d1
 ·rw [hu,hw,ig];exact h2
 ·exact r.OI.eG fun b e=>by obtain rfl:=bt e;exact nM h _ _ (Ne.symm r.d3)
def GB(os:List dg)(iL j:Int):Int :=
 match(qX os iL).bind (os[·]?)with
 |none=>23
 |some o=>match o.rQ with
  |some _=>26
  |none=>if 0≤j∧j<(o.fA.length:Int)then 0 else 24
theorem R4(r:rR h L sz os wc fc fs){iL j:Int}{v:Nat}(hv:v<18446744073709551616){R:RP}(jz:GB os iL j≠0→R (vi (GB os iL j)) h)
  (mD:∀i o (k:Nat) h',qX os iL=some i→os[i]?=some o→o.rQ=none→j=k→k<o.fA.length→rR h' L sz (os.modify i fun o=>o.iI k v) wc fc fs→bY L.fp h h'→R (vi 0) h') :
  bq PG 262 #[vp (sa L.pb),vi iL,vi j,uv v] h R:=by
 refine Xv ?_
 unfold aew
 refine yO r (fun he=>?_) fun i o a he hi ho hf ha hp=>?_
 ·refine⟨⟨_,_,_⟩,_,_,rfl,cr (by simpa using he) ?_⟩
  unfold GB at jz
  unfold B5 at he ⊢
  cases hx:(qX os iL).bind (os[·]?)with
  |none=>rw [hx]at jz;exact jz (by simp)
  |some o =>
   rw [hx]at jz he
   simp only at jz he ⊢
   cases hf:o.rQ with
   |some t=>rw [hf]at jz;exact jz (by simp)
   |none=>rw [hf]at he;simp at he
 ·refine⟨⟨_,_,_⟩,_,_,rfl,cj rfl ?_⟩
  unfold GB at jz
  rw [hi]at jz
  simp only [dX,ho,hf]at jz
  unfold O1
  refine ca (fun hj=>?_) fun hj=>?_
  ·rw [if_neg (show ¬(0≤j∧j<(o.fA.length:Int))by omega)]at jz
   exact jz (by simp)
  ·obtain⟨k,rfl⟩:=dp (show 0≤j by omega)
   refine ca (fun hk=>?_) fun hk=>?_
   ·have hk:(k:Int)≥(o.fA.length:Int):=hk
    rw [if_neg (show ¬((0:Int)≤(k:Int)∧(k:Int)<(o.fA.length:Int))by omega)]at jz
    exact jz (by simp)
   ·have hk:k<o.fA.length:=by have:¬(k:Int)≥(o.fA.length:Int):=hk;omega
    refine⟨⟨by omega,?_⟩,cW (hp (by omega)) ?_⟩
    ·show (k:Int)<(o.fA.length:Int);omega
    ·rw [bu,kD,cQ]
     have ZL:=tY ho
     obtain⟨h1,h2,h3⟩:=r.ago (p:=pos os i+1+k) (w:=v) (DB:=os.modify i fun o=>o.iI k v) (by unfold dg.size at ZL;omega) (D3 ho hk) (r.first.modify fun o=>o.BP k v)
      (B3 r.ok fun o ho=>ho.iI hv)
     exact⟨h1,mD i o k _ hi ho hf rfl hk h2 h3⟩
structure Dt (h:Hp) (L:jt) (sz:Nat) (ws:LN) (wc:Nat) (fs:LN) (fc:Nat):Prop where
 row:eM h L.pb [vi sz,.slice (sa L.wb) ws.length wc,.slice (sa L.fb) fs.length fc]
 ws:kM 1 h (sa L.wb) ws.length wc (some L.wb) (ws.map uv)
 OI:kM 1 h (sa L.fb) fs.length fc (some L.fb) (fs.map uv)
 d1:L.pb≠L.wb
 d2:L.pb≠L.fb
 d3:L.wb≠L.fb
theorem rR.raw(r:rR h L sz os wc fc fs):Dt h L sz (eQ os) wc fs fc:=⟨r.row,r.ws,r.OI,r.d1,r.d2,r.d3⟩
structure Grown (h:Hp) (L L':jt) (h':Hp):Prop where
 pb:L'.pb=L.pb
 fp:∀b,L'.fp b→L.fp b∨h.size≤b
 gK:bY L.fp h h'
theorem Grown.refl(h:Hp)(L:jt):Grown h L L h:=⟨rfl,fun _=>.inl,bY.refl _ _⟩
theorem Grown.trans {a b c:Hp}{L L' L'':jt}(g:Grown a L L' b)(k:Grown b L' L'' c):Grown a L L'' c :=
 ⟨k.pb.trans g.pb,fun x hx=>by
  rcases k.fp x hx with h|h
  ·exact g.fp x h
  ·exact .inr (bP g.gK.1 h),
  ⟨bP g.gK.1 k.gK.1,fun i hi hs=>(k.gK.2 i (bZ hi g.gK.1) fun hx=>(g.fp i hx).elim hs fun h=>by omega).trans (g.gK.2 i hi hs)⟩⟩
theorem Dt.c1 {ws:LN}(r:Dt h L sz ws wc fs fc):cell h ((ad L.pb).add 1)=some (.slice (sa L.wb) ws.length wc):=by rw [cm,bS r.row];rfl
theorem Dt.c2 {ws:LN}(r:Dt h L sz ws wc fs fc):cell h ((ad L.pb).add 2)=some (.slice (sa L.fb) fs.length fc):=by rw [cm,bS r.row];rfl
theorem Dt.lt {ws:LN}(r:Dt h L sz ws wc fs fc):∀b,L.fp b→b<h.size:=by
 rintro b (rfl|rfl|rfl)
 ·exact eE r.row
 ·exact r.ws.lt
 ·exact r.OI.lt
theorem Vo {ws fz:LN}(r:Dt h L sz ws wc fs fc)(hb:ws.length+fz.length≤100000000){h1:Hp}(k:bY N h h1){K:OA→Nat→Nat→Hp→Prop}
  (hK:∀a' c' h2,(∃L' ,gZ h2 ⟨L.pb,1,none⟩∧Dt (fy h2 ⟨L.pb,1,none⟩ (.slice a' (ws.length+fz.length) c')) L' sz (ws++fz) c' fs fc∧Grown h L L' (fy h2 ⟨L.pb,1,none⟩ (.slice a' (ws.length+fz.length) c')))→K a' (ws.length+fz.length) c' h2) :
  Av 27 1 8 #[vu 0] (sa L.wb) ws.length wc (ws.length+fz.length) (fz.map uv) h1 K:=by
 have s1:=mJ r.ws k id
 refine yp s1 rfl (by rw [bA];omega) (by intro v hv;obtain⟨n,_,rfl⟩:=cy.1 hv;rfl) (by omega) (by omega) fun a' c' jK h2 s2 vj=>?_
 have A2:=bF k r.row id
 have aum:=mJ r.OI k id
 have fE:=r.lt
 have hk1:=k.1
 have nA:∀ZY:Nat,jK=some ZY→ZY≠L.pb→ZY≠L.fb→(ZY=L.wb∨h.size≤ZY)→bY (fun b=>b=L.wb) h1 h2→K a' (ws.length+fz.length) c' h2:=by
  rintro ZY rfl n1 n2 hfp k2
  have mi:=bF k2 A2 r.d1
  have aul:=mJ aum k2 (Ne.symm r.d3)
  obtain⟨rfl,_,_⟩:=s2.row ZY rfl
  refine hK _ c' h2 ⟨⟨L.pb,ZY,L.fb⟩,jH mi (by simp),⟨?_,?_,?_,Ne.symm n1,r.d2,n2⟩,⟨rfl,?_,?_⟩⟩
  ·have:=hG mi 1 (.slice (sa ZY) (ws.length+fz.length) c')
   rw [bG]
   exact this
  ·rw [bG,cx]
   exact s2.eG fun b e=>by obtain rfl:=bt e;exact nM h2 _ _ n1
  ·exact aul.eG fun b e=>by obtain rfl:=bt e;exact nM h2 _ _ (Ne.symm r.d2)
  ·rintro b (rfl|rfl|rfl)
   ·exact .inl (.inl rfl)
   ·rcases hfp with rfl|h
    ·exact .inl (.inr (.inl rfl))
    ·exact .inr h
   ·exact .inl (.inr (.inr rfl))
  ·refine⟨by rw [sD];exact bP k.1 k2.1,fun i hi hs=>?_⟩
   rw [nM h2 _ _ (fun e=>hs (.inl e)),k2.2 i (bZ hi k.1) (fun e=>hs (.inr (.inl e)))]
   exact k.2 i hi id
 rcases vj with⟨rfl,k2⟩|⟨rfl,k2⟩
 ·exact nA L.wb rfl (Ne.symm r.d1) r.d3 (.inl rfl) (k2.mono fun _ _ e=>(bt e).symm)
 ·have p1:=fE _ (.inl rfl)
  have p2:=fE _ (.inr (.inr rfl))
  exact nA h1.size rfl (by omega) (by omega) (.inr hk1) (k2.mono fun _ _ e=>e.elim)
theorem Vp {ws fz:LN}(r:Dt h L sz ws wc fs fc)(hb:fs.length+fz.length≤100000000){h1:Hp}(k:bY N h h1){K:OA→Nat→Nat→Hp→Prop}
  (hK:∀a' c' h2,(∃L' ,gZ h2 ⟨L.pb,2,none⟩∧Dt (fy h2 ⟨L.pb,2,none⟩ (.slice a' (fs.length+fz.length) c')) L' sz ws wc (fs++fz) c'∧Grown h L L' (fy h2 ⟨L.pb,2,none⟩ (.slice a' (fs.length+fz.length) c')))→K a' (fs.length+fz.length) c' h2) :
  Av 27 1 8 #[vu 0] (sa L.fb) fs.length fc (fs.length+fz.length) (fz.map uv) h1 K:=by
 have s1:=mJ r.OI k id
 refine yp s1 rfl (by rw [bA];omega) (by intro v hv;obtain⟨n,_,rfl⟩:=cy.1 hv;rfl) (by omega) (by omega) fun a' c' jK h2 s2 vj=>?_
 have A2:=bF k r.row id
 have ws1:=mJ r.ws k id
 have fE:=r.lt
 have hk1:=k.1
 have nA:∀fb':Nat,jK=some fb'→fb'≠L.pb→fb'≠L.wb→(fb'=L.fb∨h.size≤fb')→bY (fun b=>b=L.fb) h1 h2→K a' (fs.length+fz.length) c' h2:=by
  rintro fb' rfl n1 n2 hfp k2
  have mi:=bF k2 A2 r.d2
  have ws2:=mJ ws1 k2 r.d3
  obtain⟨rfl,_,_⟩:=s2.row fb' rfl
  refine hK _ c' h2 ⟨⟨L.pb,L.wb,fb'⟩,jH mi (by simp),⟨?_,?_,?_,r.d1,Ne.symm n1,Ne.symm n2⟩,⟨rfl,?_,?_⟩⟩
  ·have:=hG mi 2 (.slice (sa fb') (fs.length+fz.length) c')
   rw [bG]
   exact this
  ·exact ws2.eG fun b e=>by obtain rfl:=bt e;exact nM h2 _ _ (Ne.symm r.d1)
  ·rw [bG,cx]
   exact s2.eG fun b e=>by obtain rfl:=bt e;exact nM h2 _ _ n1
  ·rintro b (rfl|rfl|rfl)
   ·exact .inl (.inl rfl)
   ·exact .inl (.inr (.inl rfl))
   ·rcases hfp with rfl|h
    ·exact .inl (.inr (.inr rfl))
    ·exact .inr h
  ·refine⟨by rw [sD];exact bP k.1 k2.1,fun i hi hs=>?_⟩
   rw [nM h2 _ _ (fun e=>hs (.inl e)),k2.2 i (bZ hi k.1) (fun e=>hs (.inr (.inr e)))]
   exact k.2 i hi id
 rcases vj with⟨rfl,k2⟩|⟨rfl,k2⟩
 ·exact nA L.fb rfl (Ne.symm r.d2) (Ne.symm r.d3) (.inl rfl) (k2.mono fun _ _ e=>(bt e).symm)
 ·have p1:=fE _ (.inl rfl)
  have p2:=fE _ (.inr (.inl rfl))
  exact nA h1.size rfl (by omega) (by omega) (.inr hk1) (k2.mono fun _ _ e=>e.elim)
theorem Dt.aqH {ws:LN}(r:Dt h L sz ws wc fs fc){p w:Nat}(hp:p<ws.length):gZ h ⟨L.wb,p,none⟩∧Dt (fy h ⟨L.wb,p,none⟩ (uv w)) L sz (ws.set p w) wc fs fc∧Grown h L L (fy h ⟨L.wb,p,none⟩ (uv w)):=by
 obtain⟨h1,h2⟩:=r.ws.set (by rw [bA];exact hp) (uv w)
 refine⟨h1,⟨?_,?_,?_,r.d1,r.d2,r.d3⟩,⟨rfl,fun _=>.inl,gf h p (uv w) (.inr (.inl rfl))⟩⟩
 ·rw [cd];exact nh r.row _ r.d1
 ·rw [cd,ig];exact h2
 ·exact r.OI.eG fun b e=>by obtain rfl:=bt e;exact nM h _ _ (Ne.symm r.d3)
theorem Dt.aqI {ws:LN}(r:Dt h L sz ws wc fs fc){p w:Nat}(hp:p<fs.length):gZ h ⟨L.fb,p,none⟩∧Dt (fy h ⟨L.fb,p,none⟩ (uv w)) L sz ws wc (fs.set p w) fc∧Grown h L L (fy h ⟨L.fb,p,none⟩ (uv w)):=by
 obtain⟨h1,h2⟩:=r.OI.set (by rw [bA];exact hp) (uv w)
 refine⟨h1,⟨?_,?_,?_,r.d1,r.d2,r.d3⟩,⟨rfl,fun _=>.inl,gf h p (uv w) (.inr (.inr rfl))⟩⟩
 ·rw [cd];exact nh r.row _ r.d2
 ·exact r.ws.eG fun b e=>by obtain rfl:=bt e;exact nM h _ _ r.d3
 ·rw [cd,ig];exact h2
theorem Dt.bit {ws:LN}(r:Dt h L sz ws wc fs fc){i w:Nat}(hw:fs[i]?=some w):cell h ((ad L.fb).add (i*1))=some (uv w):=by
 rw [cm,cQ]
 have hi:=(bp.1 hw).1
 rw [r.OI.cell (by rw [bA];exact hi),bD,hw]
 rfl
theorem Kp(n:Nat):(ja #[vu 0] (n*1)).toList=(List.replicate n 0).map uv:=by
 rw [o6,List.map_replicate]
 rfl
def J79(h:Hp)(L:jt)(sz:Nat)(ws fs:LN)(iL:Nat):Nat→OA→Int→Hp→Prop:=fun m s0 s7 h'=>∃(L':jt) (k wc' fc':Nat),
 s0=some (ad L.pb)∧s7=iL∧m=ws.length-(fs.length+k)∧Dt h' L' sz ws wc' (fs++List.replicate k 0) fc'∧Grown h L L' h'∧(fs.length+k)*64<ws.length+64
theorem H7(r:rR h L sz os wc fc fs)(o:dg)(vV:o.Ok){hd n:Nat}(he:o.enc=hd::List.replicate (n-1) 0) (hn:n=o.size) (xN:cZ os+o.size≤sz) {R:RP}
  (hR:∀h' L',Ar h' L' sz (os++[o])→Grown h L L' h'→R (vi (cZ os:Nat)) h'):bq PG 183 #[vp (sa L.pb),uv hd,vi n] h R:=by
 refine XV ?_
 unfold aeU
 have hs:=r.s
 have ho1:=xq o
 have hul:(eQ os).length=cZ os:=rfl
 refine bw ⟨⟨some (ad L.wb),cZ os,wc⟩,r.c1,bw ⟨⟨some (ad L.wb),cZ os,wc⟩,r.c1,⟨by omega,by omega⟩,by omega,?_⟩⟩
 show Av 27 1 8 #[vu 0] (sa L.wb) (cZ os) wc (cZ os+n) (ja #[vu 0] (n*1)).toList h _
 rw [Kp]
 have hz:cZ os+n=(eQ os).length+(List.replicate n 0).length:=by rw [fq];rfl
 rw [hz]
 refine Vo r.raw (by rw [fq];omega) (bY.refl _ _) fun a' c' h2 ⟨L1,GV,r1,g1⟩=>bw ?_
 have e1:(ad L.pb).add 1=⟨L.pb,1,none⟩:=cm _ _
 simp only [e1]
 refine⟨GV,dh fun h3 e3=>?_⟩
 rw [←e3]at r1 g1
 refine bw ⟨⟨_,_,_⟩,by have:=r1.c1;rw [g1.pb,e1]at this;exact this,⟨by omega,?_⟩,bw ?_⟩
 ·show (cZ os:Int)<(((eQ os++List.replicate n 0).length:Nat):Int)
  rw [bG,fq,hul];omega
 ·have e2:(ad L1.wb).add (((cZ os:Int)).toNat*1)=⟨L1.wb,cZ os,none⟩:=by rw [cm,bu,cQ]
  simp only [e2]
  obtain⟨as1,r2,g2⟩:=r1.aqH (p:=cZ os) (w:=hd) (by rw [bG,fq,hul];omega)
  refine⟨as1,dh fun h4 e4=>?_⟩
  rw [show fy h3 ⟨L1.wb,cZ os,none⟩ (uv hd)=h4 from e4.symm]at r2 g2
  have hws:(eQ os++List.replicate n 0).set (cZ os) hd=eQ (os++[o]):=by
   rw [vI,he,gp _ _ (by rw [hul];exact bH _),hul,dD]
   congr 1
   cases n with
   |zero=>omega
   |succ n=>rfl
  rw [hws]at r2
  have Wl:(eQ (os++[o])).length=cZ os+o.size:=nL os o
  have C2:=r.fl
  refine Mq (J79 h L sz (eQ (os++[o])) fs (cZ os)) (cZ os+o.size-fs.length) ⟨L1,0,_,_,rfl,rfl,by rw [Wl];rfl,by rw [rU,eV];exact r2,g1.trans g2,by omega⟩ ?_
  rintro m s0 s7 g h5 ⟨L2,k,wc2,fc2,rfl,rfl,rfl,r3,g3,hk⟩
  unfold Pa
  have c2:=r3.c2
  have c1:=r3.c1
  rw [g3.pb]at c1 c2
  have HX:(fs++List.replicate k 0).length=fs.length+k:=by rw [bG,fq]
  refine bw ⟨⟨_,_,_⟩,c2,bw ⟨⟨_,_,_⟩,c1,?_⟩⟩
  rw [HX]at c2
  rw [Wl]at c1 hk
  have ew:wrap .i64 (((fs.length+k:Nat):Int)*(64:Int))=(((fs.length+k)*64:Nat):Int):=by rw [d9 (by omega) (by omega)];omega
  simp only [HX,Wl,ew]
  refine ca (fun fE=>?_) fun o5=>?_
  ·have Fe:(((fs.length+k)*64:Nat):Int)<(((eQ (os++[o])).length:Nat):Int):=fE
   rw [Wl]at Fe
   clear fE
   have fE:(fs.length+k)*64<cZ os+o.size:=by omega
   refine bw ⟨⟨_,_,_⟩,c2,dh fun h6 e6=>?_⟩
   have k6:bY N h5 h6:=e6▸cF _ _ _
   refine⟨[0].map uv,lQ (e6▸du h5 #[vu 0] 27) (fun j v hj=>by rw [fo];exact hj),rfl,?_⟩
   have:=Vp (fz:=[0]) r3 (by rw [HX];show fs.length+k+1≤100000000;omega) k6 (K:=fun ra rn rc h7=>bE (sa L.pb) fun p48=>gZ h7 (p48.add 2)∧gi (fy h7 (p48.add 2) (.slice ra rn rc)) fun h8 =>
    ∃m,m<cZ os+o.size-(fs.length+k)∧J79 h L sz (eQ (os++[o])) fs (cZ os) m (sa L.pb) (cZ os:Nat) h8) ?_
   ·rw [HX]at this
    exact this
   ·rintro a7 c7 h7 ⟨L3,amu,r7,g7⟩
    rw [g3.pb]at amu r7 g7
    refine bw ?_
    have e2:(ad L.pb).add 2=⟨L.pb,2,none⟩:=cm _ _
    simp only [e2]
    refine⟨amu,dh fun h8 e8=>?_⟩
    rw [←e8]at r7 g7
    have r8:Dt h8 L3 sz (eQ (os++[o])) wc2 (fs++List.replicate (k+1) 0) c7:=by
     rw [List.replicate_succ',←ce]
     exact r7
    exact⟨cZ os+o.size-(fs.length+(k+1)),by omega,L3,k+1,wc2,c7,rfl,rfl,by rw [Wl],r8,g3.trans g7,by rw [Wl];omega⟩
  ·have atE:¬(((fs.length+k)*64:Nat):Int)<(((eQ (os++[o])).length:Nat):Int):=o5
   rw [Wl]at atE
   clear o5
   have o5:cZ os+o.size≤(fs.length+k)*64:=by omega
   have hi:cZ os / 64<(fs++List.replicate k 0).length:=by rw [HX];omega
   obtain⟨w,hw⟩:∃w,(fs++List.replicate k 0)[cZ os / 64]?=some w:=⟨_,br hi⟩
   have asT:w<18446744073709551616:=by
    rcases bI.1 (bx hw)with hx|hx
    ·exact r.first.lt _ hx
    ·rw [(gE.1 hx).2];omega
   have hgd:(fs++List.replicate k 0).getD (cZ os / 64) 0=w:=by rw [bB,hw];rfl
   rw [afH (by omega),adO]
   simp only [bu]
   have ah5:=r3.bit hw
   rw [HX]at hi
   have cb:(0:Int)≤((cZ os / 64:Nat):Int)∧((cZ os / 64:Nat):Int)<((fs.length+k:Nat):Int):=by omega
   refine bw ⟨⟨_,_,_⟩,c2,by omega,cb,bw ⟨_,ah5,by omega,by omega,cb,bw ?_⟩⟩
   have e2:(ad L2.fb).add (cZ os / 64*1)=⟨L2.fb,cZ os / 64,none⟩:=by rw [cm,cQ]
   have em:min (cZ os%64) (IntKind.bits .u64)=cZ os%64:=by rw [vy];omega
   have ep:(1:Int)*2 ^ (cZ os%64)=((2 ^ (cZ os%64):Nat):Int):=by rw [Int.one_mul];norm_cast
   have h2p:2 ^ (cZ os%64)<2 ^ 64:=nG (by omega) (by omega)
   have anr:2 ^ (cZ os%64)<18446744073709551616:=h2p
   rw [em,ep,eN (mw _) (Int.ofNat_lt.2 anr),yF asT anr]
   simp only [e2]
   obtain⟨as0,r4,g4⟩:=r3.aqI (p:=cZ os / 64) (w:=w ||| 2 ^ (cZ os%64)) (by rw [HX];exact hi)
   refine⟨as0,dh fun h9 e9=>?_⟩
   rw [show fy h5 ⟨L2.fb,cZ os / 64,none⟩ (uv (w ||| 2 ^ (cZ os%64)))=h9 from e9.symm]at r4 g4
   refine hR h9 L2 ⟨wc2,fc2,(fs++List.replicate k 0).set (cZ os / 64) (w ||| 2 ^ (cZ os%64)),?_⟩ (g3.trans g4)
   have Kl:=r.first.aqD (o:=o) (k:=k) (by omega)
   rw [hgd]at Kl
   refine⟨r4.row,r4.ws,r4.OI,Kl,?_,by rw [nL];exact xN,hs,?_,r4.d1,r4.d2,r4.d3⟩
   ·intro x hx
    rcases bI.1 hx with hx|hx
    ·exact r.ok x hx
    ·rw [bM.1 hx];exact vV
   ·rw [cd,HX,nL];exact hk
end
section
variable {h h':Hp} {L:jt} {sz:Nat} {os:List dg} {wc fc:Nat} {fs:LN}
def qn(k r w:Nat):dg:=⟨k,List.replicate r 0,List.replicate w 0,none⟩
theorem qm(k r w:Nat):(qn k r w).size=1+r+w:=by rw [dg.AW];simp [qn]
theorem EX(k r w:Nat):(qn k r w).enc=DI k r w::List.replicate (r+w) 0:=by
 unfold dg.enc dg.head dg.fA qn
 simp
theorem QS {k r w:Nat}(h1:1≤k)(h2:k≤255)(h3:r≤1048576)(h4:w≤1048576):(qn k r w).Ok :=
 ⟨h1,h2,by simpa [qn]using h3,by simpa [qn]using h4,by intro x hx;unfold dg.fA qn at hx;simp at hx;omega,nofun⟩
def pY(k r w:Int):Prop:=(1≤k∧k≤255)∧(0≤r∧r≤1048576)∧(0≤w∧w≤1048576)
theorem Iq(r:rR h L sz os wc fc fs){k rf w:Int}{R:RP}(jz:¬pY k rf w→R (vt #[vi 0,vi 21]) h)
  (sY:pY k rf w→(sz:Int)<cZ os+1+rf+w→R (vt #[vi 0,vi 22]) h)
  (mD:∀h' L',pY k rf w→(cZ os:Int)+1+rf+w≤sz→Ar h' L' sz (os++[qn k.toNat rf.toNat w.toNat])→Grown h L L' h'→R (vt #[vi (cZ os:Nat),vi 0]) h') :
  bq PG 141 #[vp (sa L.pb),vi k,vi rf,vi w] h R:=by
 refine Yl ?_
 unfold afe
 have hs:=r.s
 have hu:=r.u
 refine abr ?_
 split
 ·rename_i S7
  obtain⟨⟨k1,k2⟩,⟨r1,r2⟩,⟨w1,w2⟩⟩:=S7
  refine⟨_,_,rfl,cj rfl (bw ⟨_,r.c0,bw ⟨⟨some (ad L.wb),cZ os,wc⟩,r.c1,?_⟩⟩)⟩
  have e1:wrap .i64 (1+rf)=1+rf:=d9 (by omega) (by omega)
  have e2:wrap .i64 (1+rf+w)=1+rf+w:=d9 (by omega) (by omega)
  have e3:wrap .i64 ((sz:Int)-(cZ os:Int))=(sz:Int)-(cZ os:Int):=d9 (by omega) (by omega)
  simp only [e1,e2,e3]
  refine ca (fun Ue=>sY ⟨⟨k1,k2⟩,⟨r1,r2⟩,⟨w1,w2⟩⟩ (by omega)) fun uc=>?_
  obtain⟨k,rfl⟩:=dp (show 0≤k by omega)
  obtain⟨rf,rfl⟩:=dp r1
  obtain⟨w,rfl⟩:=dp w1
  simp only [bu]at mD ⊢
  have en:(1:Int)+(rf:Int)+(w:Int)=((1+rf+w:Nat):Int):=by omega
  rw [en]
  refine H7 r (qn k rf w) (QS (by omega) (by omega) (by omega) (by omega)) (n:=1+rf+w) (by rw [EX,show 1+rf+w-1=rf+w by omega]) (qm k rf w).symm (by rw [qm];omega) fun h' L' ha hg=>?_
  exact⟨_,rfl,mD h' L' ⟨⟨k1,k2⟩,⟨r1,r2⟩,⟨w1,w2⟩⟩ (by omega) ha hg⟩
 ·rename_i S7
  exact⟨_,_,rfl,cr rfl (jz S7)⟩
theorem PV {sz:Nat}(h1:1≤sz)(h2:sz≤1048576){h:Hp}{pb wb fb:Nat}(hp:eM h pb [vi sz,.slice (sa wb) 1 1,.slice (sa fb) 1 1]) (hw:eM h wb [uv 0]) (hf:eM h fb [uv 0])
  (d1:pb≠wb) (d2:pb≠fb) (d3:wb≠fb):Ar h ⟨pb,wb,fb⟩ sz [] :=
 ⟨1,1,[0],hp,⟨rfl,nofun,fun b e=>by obtain rfl:=bt e;exact⟨rfl,bH _,[],hw,rfl⟩⟩,⟨rfl,nofun,fun b e=>by obtain rfl:=bt e;exact⟨rfl,bH _,[],hf,rfl⟩⟩,
  L8,nofun,h1,h2,by decide,d1,d2,d3⟩
theorem acX:ja #[vu 0] ((1:Int).toNat*1)=#[uv 0]:=by
 show ja #[vu 0] (1*1)=_
 rw [o6];rfl
theorem BA {sz:Int}{R:RP}(jz:¬(1≤sz∧sz≤1048576)→R (vt #[vp none,vi 20]) h)
  (mD:∀L h',1≤sz∧sz≤1048576→Ar h' L sz.toNat []→(∀b,L.fp b→h.size≤b)→bY N h h'→R (vt #[vp (sa L.pb),vi 0]) h'):bq PG 105 #[vi sz] h R:=by
 refine YI ?_
 unfold afx
 refine ca (fun c=>?_) fun c1=>?_
 ·unfold JI;exact jz (by omega)
 unfold JI
 refine ca (fun c=>jz (by omega)) fun c2=>?_
 obtain⟨n,rfl⟩:=dp (show 0≤sz by omega)
 simp only [acX]
 have kp:∀h1 h2 h3:Hp,∀o1 o2 o3,h1=h.push o1→h2=h1.push o2→h3=h2.push o3→bY N h h3:=fun h1 h2 h3 o1 o2 o3 e1 e2 e3=>by
  subst e1 e2 e3
  exact((cF _ _ _).trans (cF _ _ _)).trans (cF _ _ _)
 refine⟨⟨by omega,by omega,by omega,dh fun h1 e1=>⟨by omega,by omega,by omega,dh fun h2 e2=>dh fun h3 e3=>?_⟩⟩,⟨by omega,by omega,by omega,dh fun h1 e1=>⟨by omega,by omega,by omega,dh fun h2 e2=>dh fun h3 e3=>?_⟩⟩⟩
 ·have z1:h1.size=h.size+1:=by rw [e1];simp
  have z2:h2.size=h1.size+1:=by rw [e2];simp
  have r1:eM h3 h.size [uv 0]:=by rw [e3];exact pd (by rw [e2];exact pd (by rw [e1];exact du h #[uv 0] 27) _) _
  have r2:eM h3 h1.size [uv 0]:=by rw [e3];exact pd (by rw [e2];exact du h1 #[uv 0] 27) _
  have r3:eM h3 h2.size [vi (n:Int),.slice (sa h.size) 1 1,.slice (sa h1.size) 1 1]:=by rw [e3];exact du h2 _ 207
  refine mD ⟨h2.size,h.size,h1.size⟩ h3 (by omega) (by rw [bu];exact PV (by omega) (by omega) r3 r1 r2 (by omega) (by omega) (by omega)) ?_ (kp _ _ _ _ _ _ e1 e2 e3)
  rintro b (e|e|e)<;>(subst e;simp only;omega)
 ·have z1:h1.size=h.size+1:=by rw [e1];simp
  have z2:h2.size=h1.size+1:=by rw [e2];simp
  have r1:eM h3 h.size [uv 0]:=by rw [e3];exact pd (by rw [e2];exact pd (by rw [e1];exact du h #[uv 0] 27) _) _
  have r2:eM h3 h1.size [uv 0]:=by rw [e3];exact pd (by rw [e2];exact du h1 #[uv 0] 27) _
  have r3:eM h3 h2.size [vi (n:Int),.slice (sa h1.size) 1 1,.slice (sa h.size) 1 1]:=by rw [e3];exact du h2 _ 207
  refine mD ⟨h2.size,h1.size,h.size⟩ h3 (by omega) (by rw [bu];exact PV (by omega) (by omega) r3 r2 r1 (by omega) (by omega) (by omega)) ?_ (kp _ _ _ _ _ _ e1 e2 e3)
  rintro b (e|e|e)<;>(subst e;simp only;omega)
theorem TQ(r:rR h L sz os wc fc fs){R:RP}(hR:∀h' L',Ar h' L' sz []→Grown h L L' h'→R (vt #[]) h'):bq PG 118 #[vp (sa L.pb)] h R:=by
 refine Yv ?_
 unfold afn
 simp only [acX]
 have hu:=r.u
 have hu1:=D8 os
 have hp:=r.lt _ (.inl rfl)
 refine⟨by omega,by omega,by omega,dh fun h1 e1=>bw ?_⟩
 have x1:(ad L.pb).add 1=⟨L.pb,1,none⟩:=cm _ _
 have x2:(ad L.pb).add 2=⟨L.pb,2,none⟩:=cm _ _
 simp only [x1]
 have z1:h1.size=h.size+1:=by rw [e1];simp
 have p1:=pd r.row (.cells #[uv 0] 27)
 rw [←e1]at p1
 have w1:eM h1 h.size [uv 0]:=by rw [e1];exact du h #[uv 0] 27
 refine⟨jH p1 (by simp),dh fun h2 e2=>⟨by omega,by omega,by omega,dh fun h3 e3=>bw ?_⟩⟩
 have p2:=hG p1 1 (.slice (some (nb h)) ((1:Int).toNat) ((1:Int).toNat))
 rw [←e2]at p2
 have w2:eM h2 h.size [uv 0]:=by rw [e2];exact nh w1 _ (by show h.size≠L.pb;omega)
 have z2:h2.size=h1.size:=by rw [e2];exact sD _ _ _
 have p3:=pd p2 (.cells #[uv 0] 27)
 rw [←e3]at p3
 have w3:eM h3 h.size [uv 0]:=by rw [e3];exact pd w2 _
 have f3:eM h3 h2.size [uv 0]:=by rw [e3];exact du h2 #[uv 0] 27
 simp only [x2]
 refine⟨jH p3 (by simp),dh fun h4 e4=>?_⟩
 have p4:=hG p3 2 (.slice (some (nb h2)) ((1:Int).toNat) ((1:Int).toNat))
 rw [←e4]at p4
 have w4:eM h4 h.size [uv 0]:=by rw [e4];exact nh w3 _ (by show h.size≠L.pb;omega)
 have f4:eM h4 h2.size [uv 0]:=by rw [e4];exact nh f3 _ (by show h2.size≠L.pb;omega)
 refine hR h4 ⟨L.pb,h.size,h2.size⟩ (PV (by omega) r.s p4 w4 f4 (by omega) (by omega) (by omega)) ⟨rfl,?_,?_⟩
 ·rintro b (rfl|rfl|rfl)
  ·exact .inl (.inl rfl)
  ·exact .inr (bH _)
  ·exact .inr (by show h.size≤h2.size;omega)
 ·have k1:bY L.fp h h1:=by rw [e1];exact cF _ _ _
  have k2:bY L.fp h1 h2:=by rw [e2];exact gf h1 1 _ (.inl rfl)
  have k3:bY L.fp h2 h3:=by rw [e3];exact cF _ _ _
  have k4:bY L.fp h3 h4:=by rw [e4];exact gf h3 2 _ (.inl rfl)
  exact((k1.trans k2).trans k3).trans k4
theorem aaS {vs ic l:LV}{o:Nat}(h:o+l.length≤vs.length):B1 (vs++ic) o l=B1 vs o l++ic:=by
 unfold B1
 rw [gB (by omega),List.drop_append_of_le_length h,ce,ce,ce]
theorem UV {sz:Nat}{h h':Hp}{a:OA}{n c b:Nat}{vs ic l:LV}{o:Nat}(s:kM sz h a n c (some b) vs) (hl:o+l.length≤vs.length) (hj:vs.length+ic.length=c*sz)
  (hr:eM h' b (B1 (vs++ic) o l)):kM sz h' a n c (some b) (B1 vs o l):=by
 obtain⟨h1,h2,_,_,_⟩:=s.row b rfl
 refine⟨by rw [QN hl];exact s.len,nofun,fun b' e=>?_⟩
 obtain rfl:=bt e
 exact⟨h1,h2,ic,by rw [←aaS hl];exact hr,by rw [QN hl];exact hj⟩
def GK(ws:LN)(p:Nat)(ns:LN):LN:=ws.take p++ns++ws.drop (p+ns.length)
theorem VE(ws:LN)(p:Nat)(ns:LN):(GK ws p ns).map uv=B1 (ws.map uv) p (ns.map uv):=by
 unfold GK B1
 rw [cx,cx,mM,List.map_drop,bA]
theorem KW {ws ns:LN}{p:Nat}(h:p+ns.length≤ws.length):(GK ws p ns).length=ws.length:=by unfold GK;simp;omega
theorem Uz(ns:LN):∀v∈ns.map uv,mj v=true:=by intro v hv;obtain⟨n,_,rfl⟩:=cy.1 hv;rfl
theorem Dt.ak8 {ws:LN}(r:Dt h L sz ws wc fs fc){p:Nat}{ns:LN}(hp:p+ns.length≤ws.length):
  wH h ⟨L.wb,p,none⟩ (ns.map uv) 0∧Dt (o9 h ⟨L.wb,p,none⟩ (ns.map uv) 0) L sz (GK ws p ns) wc fs fc∧Grown h L L (o9 h ⟨L.wb,p,none⟩ (ns.map uv) 0):=by
 obtain⟨h1,h2,ic,hr,hj⟩:=r.ws.row _ rfl
 have xN:p+0+(ns.map uv).length≤(ws.map uv++ic).length:=by simp;omega
 have oZ:=uQ (ns.map uv) h _ p 0 hr xN
 rw [iF]at oZ
 refine⟨uI _ h _ p 0 hr xN (Uz ns),⟨?_,?_,?_,r.d1,r.d2,r.d3⟩,⟨rfl,fun _=>.inl,sV h p 0 _ (.inr (.inl rfl))⟩⟩
 ·rw [KW hp];exact xz r.row (Eo _ h p 0 r.d1)
 ·rw [KW hp,VE]
  exact UV r.ws (by simp;omega) hj oZ
 ·exact r.OI.eG fun b e=>by obtain rfl:=bt e;exact Eo _ h p 0 (Ne.symm r.d3)
theorem CW {α:Type}(x:α)(f:α→α):∀l:List α,(l++[x]).modify l.length f=l++[f x]
 | []=>rfl
 |a::l=>by
  show (a::(l++[x])).modify (l.length+1) f=_
  rw [List.modify_succ_cons,CW x f l]
  rfl
def ZD(h:Hp)(Ls Ld Ld':jt)(h':Hp):Prop:=Ld'.pb=Ld.pb∧(∀b,Ld'.fp b→Ld.fp b∨h.size≤b)∧bY (fun b=>Ls.fp b∨Ld.fp b) h h'
theorem aif {o:dg}(ho:o.Ok){t:Nat}(ht:t<9223372036854775808):({o with rQ:=some t}:dg).Ok :=
 ⟨ho.k1,ho.k2,ho.nr,ho.nw,ho.fl,fun t' e=>by obtain rfl:=bt e;exact ht⟩
theorem NE {Ls Ld:jt}{pR:Nat}{wZ:List dg}{TU fcs:Nat}{fss:LN}(rs:rR h Ls pR wZ TU fcs fss){i:Nat}{o:dg}(ho:wZ[i]?=some o){t:Nat}(hf:o.rQ=some t)
  {R:RP} (hR:R (vt #[vi (t:Int),vi 0]) h):bq PG 137 #[vp (sa Ld.pb),vp (sa Ls.pb),vi (pos wZ i:Int)] h R:=by
 refine MD ?_
 unfold Yp
 have hm:Aa wZ (pos wZ i:Int)=vt #[vi (t:Int),vb true,vi 0]:=by
  unfold Aa
  rw [iD,lA (bp.1 ho).1]
  simp only [dX,ho,hf]
 refine K3 rs ?_
 rw [hm]
 exact⟨_,_,_,rfl,cj rfl (by unfold JF;exact hR)⟩
theorem Qi {Ls Ld:jt}{pR:Nat}{wZ:List dg}{TU fcs:Nat}{fss:LN}{szd:Nat}{qk:List dg}{wcd fcd:Nat}{fsd:LN}(rs:rR h Ls pR wZ TU fcs fss)(rd:rR h Ld szd qk wcd fcd fsd)
  (ang:∀b,Ls.fp b→¬Ld.fp b) {i:Nat} {o:dg} (ho:wZ[i]?=some o) (hf:o.rQ=none) (xN:cZ qk+o.size≤szd)
  {R:RP} (hR:∀h' Ld',Ar h' Ls pR (wZ.modify i fun o=>{o with rQ:=some (cZ qk)})→Ar h' Ld' szd (qk++[o])→ZD h Ls Ld Ld' h'→R (vt #[vi (cZ qk:Nat),vi 0]) h') :
  bq PG 137 #[vp (sa Ld.pb),vp (sa Ls.pb),vi (pos wZ i:Int)] h R:=by
 refine MD ?_
 unfold Yp
 have iZ:=(bp.1 ho).1
 have Dn:=rs.ok o (bx ho)
 have hm:Aa wZ (pos wZ i:Int)=vt #[vi 0,vb false,vi 0]:=by
  unfold Aa
  rw [iD,lA iZ]
  simp only [dX,ho,hf]
 refine K3 rs ?_
 rw [hm]
 refine⟨_,_,_,rfl,cj rfl ?_⟩
 unfold JF
 refine cj rfl ?_
 refine yO rs (fun he=>?_) fun i' o' a he Jh ij hf' ha hp=>?_
 ·exfalso
  apply he
  unfold B5
  rw [iD,lA iZ]
  simp only [dX,ho,hf]
  rfl
 rw [iD,lA iZ]at Jh
 obtain rfl:=bt Jh
 rw [ho]at ij
 obtain rfl:=bt ij
 have t6:=rd.s
 have hss:=rs.s
 have hus:=rs.u
 have ZL:=tY ho
 have za:=xD iZ
 have vF:o.size=1+o.fA.length:=rfl
 have e1:wrap .i64 ((1:Int)+(o.fA.length:Int))=(o.size:Int):=by rw [d9 (by omega) (by omega)];omega
 have e2:wrap .i64 ((szd:Int)-(cZ qk:Int))=(szd:Int)-(cZ qk:Int):=d9 (by omega) (by omega)
 refine⟨⟨a,o.fA.length,o.fA.length⟩,_,_,rfl,cj rfl (bw ⟨_,rd.c0,bw ⟨⟨some (ad Ld.wb),cZ qk,wcd⟩,rd.c1,?_⟩⟩)⟩
 simp only [e1,e2]
 refine ca (fun Ue=>by omega) fun _=>?_
 have hw:cell h ((ad Ls.wb).add ((pos wZ i:Int).toNat*1))=some (vu (o.head:Int)):=by
  rw [bu];exact rs.Ur (BK ho)
 refine bw ⟨⟨some (ad Ls.wb),cZ wZ,TU⟩,rs.c1,rs.R3 ho,bw ⟨_,hw,?_⟩⟩
 obtain⟨hh,hhl⟩:=dg.Ai Dn hf
 have GY:o.fA.length=o.cY.length+o.cN.length:=by unfold dg.fA;simp
 refine H7 rd (qn o.kind o.cY.length o.cN.length) (QS Dn.k1 Dn.k2 Dn.nr Dn.nw) (n:=o.size) (by rw [EX,hh,vF,show 1+o.fA.length-1=o.cY.length+o.cN.length by omega]) (by rw [qm,vF];omega)
  (by rw [qm];omega) fun h3 L3 ha3 g3=>⟨_,rfl,?_⟩
 obtain⟨wc3,fc3,fs3,r3⟩:=ha3
 have rs3:rR h3 Ls pR wZ TU fcs fss:=rs.eG g3.gK ang
 have hu3:cZ (qk++[qn o.kind o.cY.length o.cN.length])=cZ qk+o.size:=by rw [nL,qm];omega
 have c13:=r3.c1
 rw [g3.pb,hu3]at c13
 have e3:wrap .i64 ((cZ qk:Int)+1)=((cZ qk+1:Nat):Int):=by rw [d9 (by omega) (by omega)];omega
 have e4:wrap .i64 ((pos wZ i:Int)+(o.size:Int))=((pos wZ i+o.size:Nat):Int):=by rw [d9 (by omega) (by omega)];omega
 have e5:wrap .i64 ((pos wZ i:Int)+1)=((pos wZ i+1:Nat):Int):=by rw [d9 (by omega) (by omega)];omega
 have aAM:=(rs3.ws.row _ rfl).2.1
 refine bw ⟨⟨some (ad L3.wb),cZ qk+o.size,wc3⟩,c13,?_⟩
 simp only [e3,e4,e5,bu]
 refine⟨⟨by omega,by omega⟩,bw ⟨⟨some (ad Ls.wb),cZ wZ,TU⟩,rs3.c1,?_⟩⟩
 refine⟨⟨by omega,?_⟩,⟨by omega,by omega⟩,?_⟩
 ·show ((pos wZ i+o.size:Nat):Int)≤(TU:Int);omega
 have auC:min (pos wZ i+o.size-(pos wZ i+1)) (cZ qk+o.size-(cZ qk+1))=o.fA.length:=by omega
 obtain⟨_,_,ic,oZ,_⟩:=rs3.ws.row _ rfl
 refine⟨o.fA.map uv,?_,by rw [auC,bA,cQ],?_⟩
 ·by_cases h0:o.fA.length=0
  ·rw [dA.1 h0]
   split
   ·intro j v hj;simp at hj
   ·intro j v hj;simp at hj
  ·have iS:¬TU=pos wZ i+1:=by omega
   rw [if_neg iS]
   show Da h3 ((ad Ls.wb).add ((pos wZ i+1)*1)) _
   rw [cm,cQ]
   refine lQ oZ fun j v hj=>?_
   rw [bD]at hj
   have hj1:j<o.fA.length:=by
    rcases eS j o.fA.length with h|h
    ·exact h
    ·rw [bV h]at hj;cases hj
   rw [bL (by rw [bA];show _<cZ wZ;omega),bD,D4 ho hj1]
   exact hj
 have key:∀h4,Dt h4 L3 szd (GK (eQ (qk++[qn o.kind o.cY.length o.cN.length])) (cZ qk+1) o.fA) wc3 fs3 fc3→Grown h3 L3 L3 h4 →
   bE (sa Ls.pb) fun p82=>∃t84:Sl,cell h4 (p82.add 1)=some (.slice t84.a t84.n t84.c)∧(0≤(pos wZ i:Int)∧(pos wZ i:Int)<(t84.n:Int))∧bE t84.a fun p89=>gZ h4 (p89.add ((pos wZ i:Int).toNat*1)) ∧
    gi (fy h4 (p89.add ((pos wZ i:Int).toNat*1)) (vu (Oa .u64 (9223372036854775808:Int) (wrap .u64 (cZ qk:Int))))) fun h5=>R (vt #[vi (cZ qk:Int),vi 0]:Value) h5:=by
  intro h4 r4 g4
  have hws:GK (eQ (qk++[qn o.kind o.cY.length o.cN.length])) (cZ qk+1) o.fA=eQ (qk++[o]):=by
   rw [vI,vI,EX]
   have hl:(eQ qk).length=cZ qk:=rfl
   unfold GK
   have d1:(eQ qk).drop (cZ qk+1+o.fA.length)=[]:=jf (by rw [hl];omega)
   have d2:List.drop (cZ qk+1+o.fA.length-cZ qk) (DI o.kind o.cY.length o.cN.length::List.replicate (o.cY.length+o.cN.length) 0)=[]:=jf (by simp;omega)
   have d3:(eQ qk).take (cZ qk+1)=eQ qk:=eT (by rw [hl];omega)
   rw [List.take_append,kP,hl,d1,d2,d3,show cZ qk+1-cZ qk=1 by omega]
   unfold dg.enc
   rw [hh]
   simp
  rw [hws]at r4
  have o0:(eQ (qk++[o])).length=cZ qk+o.size:=nL qk o
  have ahY:qL fs3 (qk++[o]):=by
   have:=r3.first.modify (i:=qk.length) (f:=fun x=>if x.size=o.size then o else x) (fun x=>by split<;>simp_all)
   have e:(qk++[qn o.kind o.cY.length o.cN.length]).modify qk.length (fun x=>if x.size=o.size then o else x)=qk++[o]:=by
    rw [CW]
    simp [qm,vF,GY]
    omega
   rw [e]at this
   exact this
  have rd4:rR h4 L3 szd (qk++[o]) wc3 fc3 fs3:=by
   refine⟨r4.row,r4.ws,r4.OI,ahY,?_,by rw [nL];exact xN,t6,?_,r4.d1,r4.d2,r4.d3⟩
   ·intro x hx
    rcases bI.1 hx with hx|hx
    ·exact rd.ok x hx
    ·rw [bM.1 hx];exact Dn
   ·have:=r3.fl;rw [hu3]at this;rw [nL];exact this
  have aeh:∀b,Ls.fp b→¬L3.fp b:=fun b hb h3b=>by
   rcases g3.fp b h3b with h|h
   ·exact ang b hb h
   ·have:=rs.lt b hb;omega
  have rs4:rR h4 Ls pR wZ TU fcs fss:=rs3.eG g4.gK aeh
  refine bw ⟨⟨some (ad Ls.wb),cZ wZ,TU⟩,rs4.c1,rs4.R3 ho,bw ?_⟩
  have e6:(ad Ls.wb).add ((pos wZ i:Int).toNat*1)=⟨Ls.wb,pos wZ i,none⟩:=by rw [cm,bu,cQ]
  rw [eN (by omega) (by omega),KX (by omega) (by omega)]
  simp only [e6]
  obtain⟨GV,r5,k5⟩:=rs4.ago (p:=pos wZ i) (w:=9223372036854775808+cZ qk) (DB:=wZ.modify i fun o=>{o with rQ:=some (cZ qk)}) (by omega) (Se ho) (rs.first.modify fun _=>rfl)
   (B3 rs.ok fun o ho=>aif ho (by omega))
  have ev:(vu ((9223372036854775808:Int)+(cZ qk:Int)):Value)=uv (9223372036854775808+cZ qk):=rfl
  rw [ev]
  refine⟨GV,hR _ L3 ⟨_,_,_,r5⟩ ⟨_,_,_,rd4.eG k5 fun b hb hs=>aeh b hs hb⟩ ⟨g3.pb,g3.fp,?_⟩⟩
  refine⟨bP g3.gK.1 (bP g4.gK.1 k5.1),fun j hj hn=>?_⟩
  have j3:=bZ hj g3.gK.1
  rw [k5.2 j (bZ j3 g4.gK.1) (fun e=>hn (.inl e)),g4.gK.2 j j3 (fun e=>(g3.fp j e).elim (fun h=>hn (.inr h)) fun h=>by omega)]
  exact g3.gK.2 j hj (fun e=>hn (.inr e))
 by_cases h0:wc3=cZ qk+1
 ·have hz:o.fA.length=0:=by
   have:=(r3.ws.row _ rfl).2.1
   rw [hu3]at this
   omega
  rw [if_pos h0]
  have ath:o.fA=[]:=dA.1 hz
  rw [ath]at key ⊢
  refine⟨trivial,?_⟩
  refine key _ ?_ (Grown.refl _ _)
  have:GK (eQ (qk++[qn o.kind o.cY.length o.cN.length])) (cZ qk+1) []=eQ (qk++[qn o.kind o.cY.length o.cN.length]):=by unfold GK;simp
  rw [this]
  exact r3.raw
 ·rw [if_neg h0]
  have ea:((ad L3.wb).add ((cZ qk+1)*1)).add 0=⟨L3.wb,cZ qk+1,none⟩:=by rw [cm,cQ,kD]
  obtain⟨GV,r4,g4⟩:=r3.raw.ak8 (p:=cZ qk+1) (ns:=o.fA) (by show _≤cZ (qk++[qn o.kind o.cY.length o.cN.length]);omega)
  show wH h3 (((ad L3.wb).add ((cZ qk+1)*1)).add (0)) (o.fA.map uv) 0∧_
  rw [ea]
  exact⟨GV,key _ r4 g4⟩
end
def kZ(cN:LN)(j:Nat):Nat:=cN.getD (j / 8) 0 / 2 ^ (j%8*8)%256
def EQ(w s c:Nat):Nat:=2 ^ s*(2 ^ 8*(w / 2 ^ (s+8))+c)+w%2 ^ s
def lK(cN:LN)(j c:Nat):LN:=cN.set (j / 8) (EQ (cN.getD (j / 8) 0) (j%8*8) c)
def fO:LN→Nat→LN→LN
 |cN,_,[]=>cN
 |cN,j,c::cs=>fO (lK cN j c) (j+1) cs
theorem zw:∀(l:LN) (cN:LN) (j c:Nat),fO cN j (l++[c])=lK (fO cN j l) (j+l.length) c
 | [],_,_,_=>rfl
 |x::l,cN,j,c=>by
  show fO (lK cN j x) (j+1) (l++[c])=lK (fO (lK cN j x) (j+1) l) _ c
  rw [zw l]
  congr 1
  rw [dF];omega
theorem CR(cN:LN)(j c:Nat):(lK cN j c).length=cN.length:=by simp [lK]
theorem ly:∀(l:LN) (cN:LN) (j:Nat),(fO cN j l).length=cN.length
 | [],_,_=>rfl
 |x::l,cN,j=>by
  show (fO (lK cN j x) (j+1) l).length=_
  rw [ly l,CR]
theorem EP {w s c j:Nat}(hc:c<256):(EQ w s c).testBit j=if j<s then w.testBit j else if j-s<8 then c.testBit (j-s)else w.testBit j:=by
 unfold EQ
 rw [Nat.testBit_two_pow_mul_add _ (jB _ (Nat.two_pow_pos s))]
 split
 ·rename_i h
  rw [Nat.testBit_mod_two_pow]
  simp [h]
 ·rename_i h
  rw [Nat.testBit_two_pow_mul_add _ (show c<2 ^ 8 by omega)]
  split
  ·rfl
  ·rename_i h2
   rw [Nat.testBit_div_two_pow]
   congr 1
   omega
theorem aaH {w s c:Nat}(hw:w<18446744073709551616)(hs:s≤56)(hc:c<256):EQ w s c<18446744073709551616:=by
 have:EQ w s c<2 ^ 64:=by
  apply Nat.lt_pow_two_of_testBit
  intro j hj
  rw [EP hc,if_neg (by omega)]
  have Ua:w.testBit j=false:=nf (k:=64) hw j hj
  split
  ·omega
  ·exact Ua
 exact this
theorem aaI {w s c:Nat}(hw:w<18446744073709551616)(hs:s≤56)(hc:c<256):
  Oa .u64 (jr .u64 (w:Int) (wrap .u64 ((255:Int)*2 ^ s))) (wrap .u64 ((c:Int)*2 ^ s))=(EQ w s c:Int):=by
 have hp:2 ^ s≤2 ^ 56:=fQ (by omega) hs
 have HV:2 ^ s≤72057594037927936:=hp
 have e1:(255:Int)*2 ^ s=((255*2 ^ s:Nat):Int):=by norm_cast
 have e2:(c:Int)*2 ^ s=((c*2 ^ s:Nat):Int):=by norm_cast
 have hm1:255*2 ^ s≤255*72057594037927936:=Nat.mul_le_mul_left _ HV
 have hm2:c*2 ^ s≤255*72057594037927936:=Nat.mul_le_mul (by omega) HV
 rw [e1,e2,eN (mw _) (by generalize 255*2 ^ s=z at *;omega),eN (mw _) (by generalize c*2 ^ s=z at *;omega)]
 have e3:jr .u64 (w:Int) ((255*2 ^ s:Nat):Int)=(((BitVec.ofNat 64 w &&& ~~~(BitVec.ofNat 64 (255*2 ^ s))).toNat:Nat):Int):=by
  show wrap .u64 (((BitVec.ofInt 64 (w:Int) &&& ~~~(BitVec.ofInt 64 ((255*2 ^ s:Nat):Int)):BitVec 64).toNat:Nat):Int)=_
  rw [oq,oq]
  have:=(BitVec.ofNat 64 w &&& ~~~(BitVec.ofNat 64 (255*2 ^ s))).isLt
  exact eN (mw _) (by omega)
 rw [e3,yF (BitVec.isLt _) (by generalize c*2 ^ s=z at *;omega)]
 congr 1
 apply nH
 intro j
 rw [EP hc,Nat.testBit_or,BitVec.testBit_toNat,BitVec.getLsbD_and,BitVec.getLsbD_not,BitVec.getLsbD_ofNat,BitVec.getLsbD_ofNat,jF 255,jF c,Nat.testBit_two_pow_mul,Nat.testBit_two_pow_mul]
 have auh:∀k,Nat.testBit 255 k=decide (k<8):=fun k=>by
  rw [show (255:Nat)=2 ^ 8-1 by decide,Nat.testBit_two_pow_sub_one]
 have GZ:∀k,8≤k→c.testBit k=false:=nf (k:=8) hc
 rw [auh]
 by_cases hj:j<64
 ·by_cases h1:j<s
  ·simp [hj,h1,show ¬s≤j by omega]
  ·by_cases h2:j-s<8
   ·simp [hj,h1,h2,show s≤j by omega]
   ·simp [hj,h1,h2,show s≤j by omega,GZ (j-s) (by omega)]
 ·have Ua:w.testBit j=false:=nf (k:=64) hw j (by omega)
  have h2:¬j-s<8:=by omega
  simp [hj,Ua,show ¬j<s by omega,h2,GZ (j-s) (by omega)]
section
variable {h h':Hp} {L:jt} {sz:Nat} {os:List dg} {wc fc:Nat} {fs:LN}
def oe(os:List dg)(iL j6 n:Int):Int :=
 match(qX os iL).bind (os[·]?)with
 |none=>23
 |some o=>if o.rQ.isSome then 26 else if 0≤j6∧0≤n∧j6+n≤8*(o.cN.length:Int)then 0 else 25
theorem Qt(r:rR h L sz os wc fc fs){iL j6 n:Int}(DG:-9223372036854775808≤n)(Tf:-9223372036854775808≤j6)(Q5:n<9223372036854775808)(Te:j6<9223372036854775808){R:RP}
  (jz:oe os iL j6 n≠0→R (vt #[.slice none 0 0,vi (oe os iL j6 n)]) h)
  (mD:∀i o a,oe os iL j6 n=0→qX os iL=some i→os[i]?=some o→o.rQ=none→0≤j6→0≤n→j6+n≤8*(o.cN.length:Int) →
   (o.cN.length≠0→a=some ⟨L.wb,pos os i+1+o.cY.length,none⟩)→R (vt #[.slice a o.cN.length o.cN.length,vi 0]) h) :
  bq PG 264 #[vp (sa L.pb),vi iL,vi j6,vi n] h R:=by
 refine Xs ?_
 unfold aeu
 refine yO r (fun he=>?_) fun i o a he hi ho hf ha hp=>?_
 ·refine⟨⟨none,0,0⟩,_,_,rfl,cr (by simpa using he) ?_⟩
  unfold oe at jz
  unfold B5 at he ⊢
  cases hx:(qX os iL).bind (os[·]?)with
  |none=>rw [hx]at jz;exact jz (by simp)
  |some o =>
   rw [hx]at jz he
   simp only at jz he ⊢
   cases hf:o.rQ with
   |some t=>rw [hf]at jz;exact jz (by simp)
   |none=>rw [hf]at he;simp at he
 ·have Dn:=r.ok o (bx ho)
  have S6:oe os iL j6 n=if 0≤j6∧0≤n∧j6+n≤8*(o.cN.length:Int)then 0 else 25:=by
   unfold oe
   rw [hi]
   simp only [dX,ho,hf]
   rfl
  have C2:o.fA.length=o.cY.length+o.cN.length:=by unfold dg.fA;simp
  have hnw:=Dn.nw
  refine⟨⟨a,o.fA.length,o.fA.length⟩,_,_,rfl,cj rfl ⟨⟨by omega,?_⟩,?_⟩⟩
  ·show (o.cY.length:Int)≤(o.fA.length:Int);omega
  simp only [bu]
  have el:o.fA.length-o.cY.length=o.cN.length:=by omega
  have e8:wrap .i64 ((8:Int)*(o.cN.length:Int))=8*(o.cN.length:Int):=d9 (by omega) (by omega)
  simp only [el,e8]
  have yR:∀s,¬(0≤j6∧0≤n∧j6+n≤8*(o.cN.length:Int))→Cj s true h R:=fun s hn=>by
   rw [if_neg hn]at S6
   rw [S6]at jz
   exact jz (by simp)
  refine ca (fun c=>yR _ (by omega)) fun c1=>ca (fun c=>yR _ (by omega)) fun c2=>ca (fun c=>yR _ (by omega)) fun c3=>?_
  have e9:wrap .i64 (8*(o.cN.length:Int)-j6)=8*(o.cN.length:Int)-j6:=d9 (by omega) (by omega)
  rw [e9]
  by_cases c4:n>8*(o.cN.length:Int)-j6
  ·rw [decide_eq_true c4]
   exact yR _ (by omega)
  ·rw [decide_eq_false c4]
   unfold Cj
   refine cj rfl (mD i o _ (by rw [S6,if_pos (by omega)]) hi ho hf (by omega) (by omega) (by omega) fun iS=>?_)
   rw [if_neg (by omega),hp (by omega),dR,kD,cQ]
def bv(n:Nat):Value:=.int .u8 (n:Int)
theorem aoK {p:Nat}(hp:p<4611686018427387904):wrap .i64 (Int.tdiv (p:Int) (8:Int))=((p / 8:Nat):Int):=by
 rw [yw (by omega),bU (by omega) (by omega)];omega
theorem alO(p:Nat):wrap .i64 ((Int.tmod (p:Int) (8:Int))*(8:Int))=((p%8*8:Nat):Int):=by
 rw [Dv (by omega),bU (by omega) (by omega)];omega
theorem rR.KQ(r:rR h L sz os wc fc fs){i j w:Nat}{o:dg}(ho:os[i]?=some o)(hw:o.cN[j]?=some w):cell h ((⟨L.wb,pos os i+1+o.cY.length,none⟩:Addr).add (j*1))=some (uv w):=by
 rw [kD,cQ]
 have hj:=(bp.1 hw).1
 have hf:o.fA[o.cY.length+j]?=some w:=by
  unfold dg.fA
  rw [bN (by omega),fm]
  exact hw
 have hl:o.cY.length+j<o.fA.length:=(bp.1 hf).1
 have:=D4 ho hl
 rw [hf]at this
 have h2:=r.Ur (i:=pos os i+1+(o.cY.length+j)) this
 rw [cm,cQ]at h2
 rw [show pos os i+1+o.cY.length+j=pos os i+1+(o.cY.length+j)by omega]
 exact h2
theorem TS(r:rR h L sz os wc fc fs){iL j6 n:Int}(DG:-9223372036854775808≤n)(Tf:-9223372036854775808≤j6)(Q5:n<9223372036854775808)(Te:j6<9223372036854775808){R:RP}
  (jz:oe os iL j6 n≠0→R (vt #[.slice none 0 0,vi (oe os iL j6 n)]) h)
  (mD:∀i o (f m:Nat) b h',qX os iL=some i→os[i]?=some o→o.rQ=none→j6=f→n=m→f+m≤8*o.cN.length →
   eM h' b ((List.range m).map fun j=>bv (kZ o.cN (f+j)))→h.size≤b→bY N h h'→R (vt #[.slice (sa b) m m,vi 0]) h') :
  bq PG 260 #[vp (sa L.pb),vi iL,vi j6,vi n] h R:=by
 refine Xx ?_
 unfold aey
 refine Qt r DG Tf Q5 Te (fun he=>⟨⟨none,0,0⟩,_,rfl,cr (by simpa using he) (jz he)⟩) fun i o a he hi ho hf f0 n0 hfn ha=>?_
 have Dn:=r.ok o (bx ho)
 have hnw:=Dn.nw
 obtain⟨f,rfl⟩:=dp f0
 obtain⟨m,rfl⟩:=dp n0
 refine⟨⟨a,o.cN.length,o.cN.length⟩,_,rfl,cj rfl ⟨⟨by omega,by omega⟩,by omega,by omega,dh fun h1 e1=>?_⟩⟩
 simp only [bu]at e1 ⊢
 rw [o6]at e1
 have r1:eM h1 h.size (List.replicate m (bv 0)):=e1▸du h (List.replicate m (bv 0)).toArray 5
 have k1:bY N h h1:=e1▸cF _ _ _
 refine Mj (oh:=⟨a,o.cN.length,o.cN.length⟩) (rO:=⟨some (ad h.size),m,m⟩) (fun q s2 oh rO xy Eu h'=>∃k:Nat,k≤m∧q=m-k∧s2=f∧oh=⟨a,o.cN.length,o.cN.length⟩∧rO=⟨some (ad h.size),m,m⟩∧xy=m∧Eu=k ∧
  eM h' h.size (((List.range k).map fun j=>bv (kZ o.cN (f+j)))++List.replicate (m-k) (bv 0))∧bY N h h') m ⟨0,by omega,rfl,rfl,rfl,rfl,rfl,rfl,by simpa using r1,k1⟩ ?_
 rintro q s2 oh rO xy Eu g h2 ⟨k,hk,rfl,rfl,rfl,rfl,rfl,rfl,r2,k2⟩
 unfold O3
 refine ca (fun fE=>?_) fun o5=>?_
 ·have hkm:k<m:=by omega
  have ew:wrap .i64 ((f:Int)+(k:Int))=((f+k:Nat):Int):=by rw [d9 (by omega) (by omega)];omega
  rw [ew,aoK (by omega),alO]
  have hj:(f+k) / 8<o.cN.length:=by omega
  have hw:o.cN[(f+k) / 8]?=some o.cN[(f+k) / 8]:=br hj
  have kY:=(r.eG k2 (fun _ _=>id)).KQ ho hw
  simp only [bu]
  refine⟨by omega,⟨by omega,?_⟩,cW (ha (by omega)) ⟨_,kY,by omega,by omega,⟨by omega,?_⟩,bw ?_⟩⟩
  ·show (((f+k) / 8:Nat):Int)<(o.cN.length:Int);omega
  ·show (k:Int)<(m:Int);omega
  have ea:(ad h.size).add (k*1)=⟨h.size,k,none⟩:=by rw [cm,cQ]
  simp only [ea]
  have em:min ((f+k)%8*8) (IntKind.bits .u64)=(f+k)%8*8:=by rw [vy];omega
  have ev:wrap .u8 (Int.fdiv ((o.cN[(f+k) / 8]:Nat):Int) (2 ^ ((f+k)%8*8)))=((kZ o.cN (f+k):Nat):Int):=by
   rw [ri,Un]
   unfold kZ
   rw [bB,hw,mb]
   omega
  rw [em,ev]
  refine⟨jH r2 (by simp;omega),dh fun h3 e3=>⟨m-(k+1),by omega,k+1,by omega,rfl,trivial,trivial,trivial,trivial,?_,?_,?_⟩⟩
  ·rw [d9 (by omega) (by omega)];rfl
  ·rw [e3]
   have:=hG r2 k (bv (kZ o.cN (f+k)))
   have e:(((List.range k).map fun j=>bv (kZ o.cN (f+j)))++List.replicate (m-k) (bv 0)).set k (bv (kZ o.cN (f+k)))=((List.range (k+1)).map fun j=>bv (kZ o.cN (f+j)))++List.replicate (m-(k+1)) (bv 0):=by
    rw [gp _ _ (by simp),List.range_succ,cx,ce]
    congr 1
    rw [show m-k=(m-(k+1))+1 by omega,rV]
    simp
   rw [e]at this
   exact this
  ·rw [e3]
   refine⟨by rw [sD];exact k2.1,fun b hb _=>?_⟩
   rw [nM _ _ _ (by show b≠h.size;omega)]
   exact k2.2 b hb id
 ·obtain rfl:k=m:=by omega
  rw [dD,rU,eV]at r2
  exact mD i o f k h.size h2 hi ho hf rfl rfl (by omega) r2 (bH _) k2
theorem N4 {cN:LN}{j c:Nat}(hr:∀x∈cN,x<18446744073709551616)(hc:c<256):∀x∈lK cN j c,x<18446744073709551616:=by
 intro x hx
 rcases dB hx with hx|hx
 ·exact hr x hx
 ·rw [hx]
  refine aaH ?_ (by omega) hc
  rw [bB]
  cases h:cN[j / 8]? with
  |none=>simp
  |some w=>exact hr w (bx h)
theorem tX:∀ {l:LN} {cN:LN} {j:Nat},(∀x∈cN,x<18446744073709551616)→(∀c∈l,c<256)→∀x∈fO cN j l,x<18446744073709551616
 | [],_,_,hr,_=>hr
 |c::l,cN,j,hr,hl=>tX (l:=l) (N4 hr (hl c (bQ ..))) fun c hc=>hl c (bJ _ hc)
def dg.gL(o:dg)(ws:LN):dg:={o with cN:=ws}
theorem AX(o:dg)(k w:Nat):o.iI (o.cY.length+k) w=o.gL (o.cN.set k w):=by
 unfold dg.iI dg.gL
 rw [if_neg (by omega),fm]
theorem GN {α:Type}(l:List α)(i:Nat)(f g:α→α):(l.modify i f).modify i g=l.modify i (g ∘ f):=by
 apply cG
 intro j
 rw [dQ,dQ,dQ]
 cases l[j]? with
 |none=>rfl
 |some x=>show some _=some _;congr 1;by_cases h:i=j<;>simp [h]
theorem sk {α:Type}{l:List α}{i:Nat}{x:α}(hx:l[i]?=some x){f g:α→α}(h:f x=g x):l.modify i f=l.modify i g:=by
 apply cG
 intro j
 rw [dQ,dQ]
 by_cases zc:i=j
 ·subst zc;rw [hx];show some _=some _;simp [h]
 ·cases l[j]? with
  |none=>rfl
  |some y=>show some _=some _;simp [zc]
theorem modify_id {α:Type}{l:List α}{i:Nat}{x:α}(hx:l[i]?=some x){f:α→α}(h:f x=x):l.modify i f=l:=by
 apply cG
 intro j
 rw [dQ]
 by_cases zc:i=j
 ·subst zc;rw [hx];show some _=some _;simp [h]
 ·cases l[j]? with
  |none=>rfl
  |some y=>show some _=some _;simp [zc]
theorem J6(r:rR h L sz os wc fc fs){iL j6:Int}{s:Sl}{cs:LN}(hs:dZ h s.a (cs.map bv)) (Kl:s.n=cs.length) (Km:∀c∈cs,c<256) (hsb:∀a,s.a=some a→cs≠[]→¬L.fp a.block)
  (hn:(cs.length:Int)<9223372036854775808) (Tf:-9223372036854775808≤j6) (Te:j6<9223372036854775808) {R:RP}
  (jz:oe os iL j6 cs.length≠0→R (vi (oe os iL j6 cs.length)) h)
  (mD:∀i o (f:Nat) h',qX os iL=some i→os[i]?=some o→o.rQ=none→j6=f→f+cs.length≤8*o.cN.length →
   rR h' L sz (os.modify i fun o=>o.gL (fO o.cN f cs)) wc fc fs→bY L.fp h h'→R (vi 0) h') :
  bq PG 263 #[vp (sa L.pb),vi iL,vi j6,.slice s.a s.n s.c] h R:=by
 refine Xt ?_
 unfold aev
 rw [Kl]
 refine Qt r (by omega) Tf hn Te (fun he=>⟨⟨none,0,0⟩,_,rfl,cr (by simpa using he) (jz he)⟩) fun i o a he hi ho hf f0 n0 hfn ha=>?_
 have Dn:=r.ok o (bx ho)
 have hnw:=Dn.nw
 obtain⟨f,rfl⟩:=dp f0
 refine⟨⟨a,o.cN.length,o.cN.length⟩,_,rfl,cj rfl ?_⟩
 refine Mi (s9:=⟨a,o.cN.length,o.cN.length⟩) (QA:=⟨s.a,cs.length,s.c⟩) (fun q s2 s9 QA Dh xy h'=>∃k:Nat,k≤cs.length∧q=cs.length-k∧s2=f∧s9=⟨a,o.cN.length,o.cN.length⟩∧QA=⟨s.a,cs.length,s.c⟩∧Dh=cs.length∧xy=k ∧
  rR h' L sz (os.modify i fun o=>o.gL (fO o.cN f (cs.take k))) wc fc fs∧bY L.fp h h') cs.length ⟨0,by omega,rfl,rfl,rfl,rfl,rfl,rfl,?_,bY.refl _ _⟩ ?_
 ·have:(os.modify i fun o=>o.gL (fO o.cN f (cs.take 0)))=os:=modify_id ho rfl
  rw [this];exact r
 rintro q s2 s9 QA Dh xy g h2 ⟨k,hk,rfl,rfl,rfl,rfl,rfl,rfl,r2,k2⟩
 unfold O0
 refine ca (fun fE=>?_) fun o5=>?_
 ·have hkm:k<cs.length:=by omega
  have hc:cs[k]?=some cs[k]:=br hkm
  have Jj:=Km _ (nQ hkm)
  generalize cs[k]=c at hc Jj
  obtain⟨ab,LW⟩:∃ab,s.a=some ab:=by
   cases hsa:s.a with
   |some ab=>exact⟨ab,rfl⟩
   |none =>
    rw [hsa]at hs
    have hs:cs.map bv=[]:=hs
    have:=nX.1 hs
    rw [this]at hkm;simp at hkm
  have hrd:cell h (ab.add k)=some (bv c):=by
   rw [LW]at hs
   exact hs k _ (by rw [bD,hc];rfl)
  have ata:cell h2 (ab.add (k*1))=some (bv c):=by
   rw [cQ,←hrd]
   have zd:(ab.add k).block=ab.block:=by unfold Addr.add;split<;>rfl
   unfold cell
   rw [zd]
   have fE:ab.block<h.size:=by
    unfold cell at hrd
    rw [zd]at hrd
    split at hrd
    ·rename_i x y z hx;exact(jg.1 hx).1
    ·cases hrd
   rw [k2.2 _ fE (hsb ab LW fun e=>by rw [e]at hkm;simp at hkm)]
  have Ww:(os.modify i fun o=>o.gL (fO o.cN f (cs.take k)))[i]?=some (o.gL (fO o.cN f (cs.take k))):=by
   rw [dQ,ho];show some _=some _;simp
  generalize hX:fO o.cN f (cs.take k)=X at Ww
  have hXl:X.length=o.cN.length:=by rw [←hX,ly]
  have ew:wrap .i64 ((f:Int)+(k:Int))=((f+k:Nat):Int):=by rw [d9 (by omega) (by omega)];omega
  rw [ew,aoK (by omega),alO]
  have hj:(f+k) / 8<X.length:=by omega
  obtain⟨w,hw⟩:∃w,X[(f+k) / 8]?=some w:=⟨_,br hj⟩
  have wW:pos (os.modify i fun o=>o.gL (fO o.cN f (cs.take k))) i=pos os i:=by
   unfold pos
   congr 1
   apply cG
   intro x
   rw [gF,gF]
   split
   ·rename_i hx
    rw [dQ]
    cases os[x]? with
    |none=>rfl
    |some y=>show some _=some _;simp [show ¬i=x by omega]
   ·rfl
  have kY:=r2.KQ Ww (j:=(f+k) / 8) hw
  rw [wW]at kY
  simp only [bu]
  have c1:(0:Int)≤(((f+k) / 8:Nat):Int)∧(((f+k) / 8:Nat):Int)<(o.cN.length:Int):=by omega
  refine⟨⟨by omega,by omega⟩,cW LW ⟨_,ata,by omega,by omega,by omega,c1,cW (ha (by omega)) ⟨_,kY,by omega,by omega,c1,cW (ha (by omega)) ?_⟩⟩⟩
  have ea:(⟨L.wb,pos os i+1+o.cY.length,none⟩:Addr).add ((f+k) / 8*1)=⟨L.wb,pos os i+1+(o.cY.length+(f+k) / 8),none⟩:=by rw [kD,cQ,mL]
  simp only [ea]
  have em:min ((f+k)%8*8) (IntKind.bits .u64)=(f+k)%8*8:=by rw [vy];omega
  have Wl:w<18446744073709551616:=by
   have:=(r2.ok _ (bx Ww)).fl w
   exact this (by unfold dg.fA dg.gL;exact bK _ (bx hw))
  rw [em,eN (x:=(c:Int)) (by omega) (by omega),aaI Wl (by omega) Jj]
  have am4:X.getD ((f+k) / 8) 0=w:=by rw [bB,hw];rfl
  have hjf:o.cY.length+(f+k) / 8<(o.gL X).fA.length:=by unfold dg.fA dg.gL;simp;omega
  have amw:cs.take (k+1)=cs.take k++[c]:=by rw [mY,hc];rfl
  have Ta:(os.modify i fun o=>o.gL (fO o.cN f (cs.take k))).modify i (fun o=>o.iI (o.cY.length+(f+k) / 8) (EQ w ((f+k)%8*8) c))=os.modify i fun o=>o.gL (fO o.cN f (cs.take (k+1))):=by
   rw [GN]
   refine sk ho ?_
   show (o.gL (fO o.cN f (cs.take k))).iI (o.cY.length+(f+k) / 8) _=_
   rw [hX,show o.cY.length=(o.gL X).cY.length from rfl,AX]
   unfold dg.gL
   simp only
   congr 1
   rw [amw,zw,hX]
   unfold lK
   rw [dm,ji (by omega),am4]
  have S8:=D3 (v:=EQ w ((f+k)%8*8) c) Ww hjf
  have hm2:(os.modify i fun o=>o.gL (fO o.cN f (cs.take k))).modify i (fun x=>x.iI (o.cY.length+(f+k) / 8) (EQ w ((f+k)%8*8) c))=os.modify i fun o=>o.gL (fO o.cN f (cs.take (k+1))):=by
   rw [←Ta]
   exact sk Ww rfl
  rw [hm2,wW]at S8
  have ZL:=tY ho
  have C2:o.fA.length=o.cY.length+o.cN.length:=by unfold dg.fA;simp
  have vF:o.size=1+o.fA.length:=rfl
  have hud:cZ (os.modify i fun o=>o.gL (fO o.cN f (cs.take k)))=cZ os:=by
   have:=r2.c1
   have h3:=(bF k2 r.row)
   exact CE fun o=>by unfold dg.size dg.fA dg.gL;simp [ly]
  obtain⟨GV,r3,k3⟩:=r2.ago (p:=pos os i+1+(o.cY.length+(f+k) / 8)) (w:=EQ w ((f+k)%8*8) c) (DB:=os.modify i fun o=>o.gL (fO o.cN f (cs.take (k+1)))) (by rw [hud];omega)
   (by rw [S8]) (r.first.modify fun o=>by unfold dg.size dg.fA dg.gL;simp [ly])
   (B3 r.ok fun o ho=>⟨ho.k1,ho.k2,ho.nr,by unfold dg.gL;simp only [ly];exact ho.nw,fun x hx=>by
    unfold dg.fA dg.gL at hx
    rcases bI.1 hx with hx|hx
    ·exact ho.fl x (bW _ hx)
    ·exact tX (fun y hy=>ho.fl y (bK _ hy)) (fun y hy=>Km y (dK hy)) x hx,ho.fw⟩)
  exact⟨GV,cs.length-(k+1),by omega,k+1,by omega,rfl,trivial,trivial,trivial,trivial,by rw [d9 (by omega) (by omega)];rfl,r3,k2.trans k3⟩
 ·obtain rfl:k=cs.length:=by omega
  rw [dE]at r2
  exact mD i o f h2 hi ho hf rfl (by omega) r2 k2
end
structure Hd (sz:Nat) (h:Hp) (a:OA) (n c:Nat) (ob:Option Nat) (vs:LV):Prop where
 len:vs.length=n*sz
 nil:ob=none→a=none∧n=0∧c=0
 row:∀b,ob=some b→∃off,a=some ⟨b,off,none⟩∧n≤c∧∃pre ic,(c≠0→pre.length=off)∧eM h b (pre++(vs++ic))∧vs.length+ic.length=c*sz
theorem kM.slO {sz:Nat}{h:Hp}{a:OA}{n c:Nat}{ob:Option Nat}{vs:LV}(s:kM sz h a n c ob vs):Hd sz h a n c ob vs :=
 ⟨s.len,s.nil,fun b e=>by obtain⟨h1,h2,j,h3,h4⟩:=s.row b e;exact⟨0,h1,h2,[],j,fun _=>rfl,h3,h4⟩⟩
theorem IF(sz:Nat)(h:Hp):Hd sz h none 0 0 none []:=(uL sz h).slO
theorem Hd.eG {sz:Nat}{h h':Hp}{a:OA}{n c:Nat}{ob:Option Nat}{vs:LV}(s:Hd sz h a n c ob vs)(hk:∀b,ob=some b→h'[b]?=h[b]?):Hd sz h' a n c ob vs :=
 ⟨s.len,s.nil,fun b hb=>by obtain⟨off,h1,h2,p,j,h3,h4,h5⟩:=s.row b hb;exact⟨off,h1,h2,p,j,h3,xz h4 (hk b hb),h5⟩⟩
theorem Hd.gK {sz:Nat}{h h':Hp}{a:OA}{n c:Nat}{ob:Option Nat}{vs:LV}{S:Nat→Prop}(s:Hd sz h a n c ob vs)(k:bY S h h')(hS:∀b,ob=some b→¬S b):Hd sz h' a n c ob vs :=
 s.eG fun b e=>by
  obtain⟨_,_,_,_,_,_,hr,_⟩:=s.row b e
  exact k.2 b (eE hr) (hS b e)
theorem Hd.lt {sz:Nat}{h:Hp}{a:OA}{n c b:Nat}{vs:LV}(s:Hd sz h a n c (some b) vs):b<h.size:=by
 obtain⟨_,_,_,_,_,_,hr,_⟩:=s.row b rfl
 exact eE hr
theorem Hd.at {h:Hp}{a:OA}{n c:Nat}{ob:Option Nat}{vs:LV}(s:Hd 1 h a n c ob vs){i:Nat}{v:Value}(hv:vs[i]?=some v):∃p:Addr,a=some p∧cell h (p.add (i*1))=some v:=by
 have hi:=(bp.1 hv).1
 have hl:=s.len
 cases ob with
 |none=>have:=(s.nil rfl).2.1;omega
 |some b =>
  obtain⟨off,rfl,h2,pre,ic,h3,h4,h5⟩:=s.row b rfl
  refine⟨_,rfl,?_⟩
  rw [kD,cQ,bS h4,bN (by have:=h3 (by omega);omega),h3 (by omega),fm,bL hi]
  exact hv
theorem Hd.tail {h:Hp}{a:OA}{n c:Nat}{ob:Option Nat}{v:Value}{vs:LV}(s:Hd 1 h a n c ob (v::vs)) :
  Hd 1 h (if c=1 then a else Option.map (fun x=>x.add (1*1)) a) (n-1) (c-1) ob vs:=by
 have hl:=s.len
 rw [dF]at hl
 cases ob with
 |none=>have:=(s.nil rfl).2.1;omega
 |some b =>
  obtain⟨off,rfl,h2,pre,ic,h3,h4,h5⟩:=s.row b rfl
  rw [dF]at h5
  refine⟨by omega,nofun,fun b' e=>?_⟩
  obtain rfl:=bt e
  have hp:=h3 (by omega)
  have e1:pre++(v::vs++ic)=(pre++[v])++(vs++ic):=by simp
  rw [e1]at h4
  by_cases hc:c=1
  ·rw [if_pos hc]
   exact⟨off,rfl,by omega,pre++[v],ic,fun h=>by omega,h4,by omega⟩
  ·rw [if_neg hc]
   exact⟨off+1,by rw [dR,kD],by omega,pre++[v],ic,fun _=>by simp [hp],h4,by omega⟩
theorem acQ {e sz ze:Nat}{z:Array Value}{a:OA}{n c m:Nat}{ob:Option Nat}{vs fz:LV}{h:Hp}{K:OA→Nat→Nat→Hp→Prop}
  (s:Hd sz h a n c ob vs) (hz:z.size=sz) (hl:fz.length=m*sz) (kY:∀v∈fz,mj v=true) (hb:(2*(n+m)+768)*ze≤2 ^ 48) (fE:n+m<2 ^ 62)
  (hK:∀a' c' jK h',Hd sz h' a' (n+m) c' jK (vs++fz)→(jK=ob∧bY (fun b=>ob=some b) h h'∨jK=some h.size∧bY (fun _=>False) h h')→K a' (n+m) c' h') :
  Av e sz ze z a n c (n+m) fz h K:=by
 have BG:=s.len
 refine⟨fun hc=>?_,fun hc=>⟨hb,fE,?_⟩⟩
 ·cases ob with
  |none =>
   obtain⟨rfl,rfl,rfl⟩:=s.nil rfl
   obtain rfl:m=0:=by omega
   have hn:fz=[]:=dA.1 (by omega)
   have hv:vs=[]:=dA.1 (by omega)
   subst hn hv
   exact hK none 0 none h (IF sz h) (.inl ⟨rfl,bY.refl _ _⟩)
  |some b =>
   obtain⟨off,rfl,h2,pre,j,hp,hr,Jj⟩:=s.row b rfl
   show wH h ((⟨b,off,none⟩:Addr).add (n*sz)) fz 0∧_
   rw [kD]
   have xN:n*sz+fz.length≤(vs++j).length:=by
    rw [bG,Jj,hl]
    have:=gA sz hc
    rw [hY]at this
    omega
   by_cases h0:c=0
   ·subst h0
    have hm:m=0:=by omega
    have DG:n=0:=by omega
    have hn:fz=[]:=dA.1 (by rw [hl,hm];omega)
    subst hn
    refine⟨trivial,hK _ 0 (some b) h ⟨by simp [BG,hm],nofun,fun b' e=>?_⟩ (.inl ⟨rfl,bY.refl _ _⟩)⟩
    obtain rfl:=bt e
    exact⟨off,rfl,by omega,pre,j,fun h=>absurd rfl h,by rw [eV];exact hr,by simpa using Jj⟩
   ·have za:=hp h0
    have aeg:off+n*sz+0+fz.length≤(pre++(vs++j)).length:=by rw [bG,za];omega
    refine⟨uI fz h _ _ 0 hr aeg kY,?_⟩
    refine hK _ c (some b) _ ⟨by simp [BG,hl,hY],nofun,fun b' e=>?_⟩ (.inl ⟨rfl,sV h _ _ _ rfl⟩)
    obtain rfl:=bt e
    refine⟨off,rfl,hc,pre,j.drop fz.length,fun _=>za,?_,?_⟩
    ·have:=uQ fz h _ (off+n*sz) 0 hr aeg
     rw [iF]at this
     have e1:B1 (pre++(vs++j)) (off+n*sz) fz=pre++(vs++fz++j.drop fz.length):=by
      unfold B1
      rw [←BG,←za]
      have t1:(pre++(vs++j)).take (pre.length+vs.length)=pre++vs:=by
       rw [←ce,gB (by simp),eT (by simp)]
      have t2:(pre++(vs++j)).drop (pre.length+vs.length+fz.length)=j.drop fz.length:=by
       rw [←ce,kP,jf (by simp),eU]
       congr 1
       simp
      rw [t1,t2]
      simp
     rwa [e1]at this
    ·rw [bG,fu,hl]
     rw [bG,Jj]at xN
     omega
 ·refine⟨vs,?_,BG,fun nc h1 h2=>?_⟩
  ·cases ob with
   |none =>
    obtain⟨rfl,rfl,rfl⟩:=s.nil rfl
    exact dA.1 (by omega)
   |some b =>
    obtain⟨off,rfl,Tb,pre,j,hp,hr,Jj⟩:=s.row b rfl
    by_cases h0:c=0
    ·have:vs=[]:=dA.1 (by have:n=0:=(by omega);rw [BG,this];omega)
     subst this
     intro i v hv
     simp at hv
    ·exact lQ hr fun i v hv=>by
      rw [bN (by have:=hp h0;omega),hp h0,fm,bL (bp.1 hv).1];exact hv
  ·refine hK _ nc (some h.size) _ ⟨by simp [BG,hl,hY],nofun,fun b' fV=>?_⟩ (.inr ⟨rfl,cF _ _ _⟩)
   obtain rfl:h.size=b':=by simpa using fV
   refine⟨0,rfl,h1,[],(ja z ((nc-(n+m))*z.size)).toList,fun _=>rfl,?_,?_⟩
   ·have:=du h (vs.toArray++fz.toArray++ja z ((nc-(n+m))*z.size)) e
    simpa using this
   ·have e1:(ja z ((nc-(n+m))*z.size)).toList.length=(nc-(n+m))*sz:=by
     rw [fx,AL,hz]
    rw [e1,bG,BG,hl,←hY,←hY]
    congr 1
    omega
inductive io where
 |out
 |hd
 |dJ
 |dC
 |bb
 |rb
 |gb
 |tb
 |Dg (i:Nat)
structure MH where
 cM:Nat
 hz:Nat
 dJ:List dg
 sz:Nat
 dC:List dg
 blocks:List (Option dg)
 dL:List Bool
 kS:LN
 dI:Nat
 gU:Nat
 gK:Nat
 bC:List (Bool × Nat)
 r5:Nat
 r6:Int
 r7:Int
 r8:Nat
structure xd where
 Lh:jt
 Ls:jt
 jW:List (Option jt)
 bs:Sl
 bb:Option Nat
 rs:Sl
 rb:Option Nat
 gs:Sl
 gb:Option Nat
 ts:Sl
 tb:Option Nat
def Sq(s:Sl):Value:=.slice s.a s.n s.c
def N5:Option jt→Value
 |none=>vp none
 |some L=>vp (sa L.pb)
def pf(r:Bool × Nat):LV:=[vb r.1,uv r.2]
def nv(n:Nat):Value:=vi (n:Int)
def kB(m:MH)(G:xd):LV :=
 [nv m.cM,vp (sa G.Lh.pb),vp (sa G.Ls.pb),Sq G.bs,Sq G.rs,Sq G.gs,nv m.dI,nv m.gU,nv m.gK,Sq G.ts,
  vi 0,vi 0,vi 0,vi 0,vi 0,nv m.r5,vi m.r6,vi m.r7,nv m.r8]
def yW(h:Hp)(bR:Nat→io)(i:Nat):Option dg→Option jt→Prop
 |some o,some L=>Ar h L (o.size+1) [o]∧∀b,L.fp b→bR b=.Dg i
 |none,none=>True
 |_,_=>False
structure dP (h:Hp) (hb:Nat) (bR:Nat→io) (m:MH) (G:xd):Prop where
 row:eM h hb (kB m G)
 rh:bR hb=.hd
 fresh:∀b,h.size≤b→bR b=.out
 dJ:Ar h G.Lh m.hz m.dJ
 nu:∀b,G.Lh.fp b→bR b=.dJ
 dC:Ar h G.Ls m.sz m.dC
 lN:∀b,G.Ls.fp b→bR b=.dC
 bs:kM 1 h G.bs.a G.bs.n G.bs.c G.bb (G.jW.map N5)
 Ig:∀b,G.bb=some b→bR b=.bb
 ll:G.jW.length=m.blocks.length
 bl:∀i o L,m.blocks[i]?=some o→G.jW[i]?=some L→yW h bR i o L
 rs:kM 1 h G.rs.a G.rs.n G.rs.c G.rb (m.dL.map Value.bool)
 Hx:∀b,G.rb=some b→bR b=.rb
 gs:Hd 1 h G.gs.a G.gs.n G.gs.c G.gb (m.kS.map nv)
 Jl:∀b,G.gb=some b→bR b=.gb
 ts:kM 2 h G.ts.a G.ts.n G.ts.c G.tb (m.bC.flatMap pf)
 Ki:∀b,G.tb=some b→bR b=.tb
section
variable {h h':Hp} {hb:Nat} {bR:Nat→io} {m:MH} {G:xd}
theorem yW.eG {i:Nat}{o:Option dg}{L:Option jt}(x:yW h bR i o L){S:Nat→Prop}(k:bY S h h')(hS:∀b,bR b=.Dg i→¬S b):yW h' bR i o L:=by
 cases o<;>cases L<;>first|exact x|exact⟨x.1.eG k fun b hb=>hS b (x.2 b hb),x.2⟩
theorem dP.eG(r:dP h hb bR m G){S:Nat→Prop}(k:bY S h h')(hS:∀b,S b→bR b=.out):dP h' hb bR m G:=by
 have no:∀b x,bR b=x→x≠.out→¬S b:=fun b x e hx s=>hx (e▸hS b s)
 exact⟨bF k r.row (no _ _ r.rh nofun),r.rh,fun b hb=>r.fresh b (bP k.1 hb),r.dJ.eG k fun b hb=>no _ _ (r.nu b hb) nofun,r.nu,r.dC.eG k fun b hb=>no _ _ (r.lN b hb) nofun,r.lN,
  ir r.bs k fun b hb=>no _ _ (r.Ig b hb) nofun,r.Ig,r.ll,fun i o L h1 h2=>(r.bl i o L h1 h2).eG k fun b hb=>no _ _ hb nofun,
  ir r.rs k fun b hb=>no _ _ (r.Hx b hb) nofun,r.Hx,r.gs.gK k fun b hb=>no _ _ (r.Jl b hb) nofun,r.Jl,ir r.ts k fun b hb=>no _ _ (r.Ki b hb) nofun,r.Ki⟩
theorem dP.c(r:dP h hb bR m G)(i:Nat):cell h ((ad hb).add i)=(kB m G)[i]?:=by rw [cm];exact bS r.row i
theorem dP.c0(r:dP h hb bR m G):cell h (ad hb)=some (nv m.cM):=RY r.row
theorem dP.fE(r:dP h hb bR m G):hb<h.size:=eE r.row
theorem dP.alc(r:dP h hb bR m G){i:Nat}{v:Value}{m':MH}{G':xd}(hc:(kB m G).set i v=kB m' G') :
  eM (fy h ⟨hb,i,none⟩ v) hb (kB m' G')∧bY (fun b=>b=hb) h (fy h ⟨hb,i,none⟩ v):=by
 refine⟨?_,gf h i v rfl⟩
 have:=hG r.row i v
 rwa [hc]at this
theorem dP.gZ(r:dP h hb bR m G){i:Nat}(hi:i<19):Go.Ev.gZ h ⟨hb,i,none⟩:=jH r.row hi
theorem dP.Vj(r:dP h hb bR m G){i:Nat}{v:Value}{m':MH}(hc:(kB m G).set i v=kB m' G) (h1:m'.hz=m.hz) (h2:m'.dJ=m.dJ) (h3:m'.sz=m.sz) (h4:m'.dC=m.dC) (h5:m'.blocks=m.blocks)
  (h6:m'.dL=m.dL) (h7:m'.kS=m.kS) (h8:m'.bC=m.bC):dP (fy h ⟨hb,i,none⟩ v) hb bR m' G:=by
 obtain⟨h9,k⟩:=r.alc hc
 have no:∀b x,bR b=x→x≠.hd→¬b=hb:=fun b x e hx s=>hx (e▸s▸r.rh)
 exact⟨h9,r.rh,fun b hb=>r.fresh b (bP k.1 hb),h1▸h2▸r.dJ.eG k fun b hb=>no _ _ (r.nu b hb) nofun,r.nu,h3▸h4▸r.dC.eG k fun b hb=>no _ _ (r.lN b hb) nofun,r.lN,
  ir r.bs k fun b hb=>no _ _ (r.Ig b hb) nofun,r.Ig,h5▸r.ll,fun i o L e1 e2=>(r.bl i o L (h5▸e1) e2).eG k fun b hb=>no _ _ hb nofun,
  h6▸ir r.rs k fun b hb=>no _ _ (r.Hx b hb) nofun,r.Hx,h7▸r.gs.gK k fun b hb=>no _ _ (r.Jl b hb) nofun,r.Jl,h8▸ir r.ts k fun b hb=>no _ _ (r.Ki b hb) nofun,r.Ki⟩
def nR(bR:Nat→io)(n:Nat)(P:Nat→Prop)[DecidablePred P] (x:io) (b:Nat):io:=if n≤b∧P b then x else bR b
instance (L:jt):DecidablePred L.fp:=fun b=>inferInstanceAs (Decidable (_∨_∨_))
structure afR (h:Hp) (hb:Nat) (bR:Nat→io) (m:MH) (G:xd) (x:io):Prop where
 rh:bR hb=.hd
 fresh:∀b,h.size≤b→bR b=.out
 dJ:x≠.dJ→Ar h G.Lh m.hz m.dJ∧∀b,G.Lh.fp b→bR b=.dJ
 dC:x≠.dC→Ar h G.Ls m.sz m.dC∧∀b,G.Ls.fp b→bR b=.dC
 bs:x≠.bb→kM 1 h G.bs.a G.bs.n G.bs.c G.bb (G.jW.map N5)∧∀b,G.bb=some b→bR b=.bb
 ll:G.jW.length=m.blocks.length
 bl:∀i o L,x≠.Dg i→m.blocks[i]?=some o→G.jW[i]?=some L→yW h bR i o L
 rs:x≠.rb→kM 1 h G.rs.a G.rs.n G.rs.c G.rb (m.dL.map Value.bool)∧∀b,G.rb=some b→bR b=.rb
 gs:x≠.gb→Hd 1 h G.gs.a G.gs.n G.gs.c G.gb (m.kS.map nv)∧∀b,G.gb=some b→bR b=.gb
 ts:x≠.tb→kM 2 h G.ts.a G.ts.n G.ts.c G.tb (m.bC.flatMap pf)∧∀b,G.tb=some b→bR b=.tb
theorem dP.part(r:dP h hb bR m G){x:io}{S:Nat→Prop}(k:bY S h h')(hS:∀b,S b→bR b=x∨bR b=.hd∨bR b=.out){cR:Nat→io}(hr:∀b,b<h.size→cR b=bR b)(hf:∀b,h'.size≤b→cR b=.out):
  afR h' hb cR m G x:=by
 have no:∀b y,bR b=y→y≠x→y≠.hd→y≠.out→¬S b:=fun b y e h1 h2 h3 s=>by
  rcases hS b s with h|h|h
  ·exact h1 (e▸h)
  ·exact h2 (e▸h)
  ·exact h3 (e▸h)
 have lo:∀b y,bR b=y→y≠.out→b<h.size:=fun b y e hy=>by
  rcases eS b h.size with hl|hl
  ·exact hl
  ·exact absurd (e▸r.fresh b hl) hy
 have tr:∀b y,bR b=y→y≠.out→cR b=y:=fun b y e hy=>(hr b (lo b y e hy)).trans e
 refine⟨tr _ _ r.rh nofun,hf,fun hx=>⟨r.dJ.eG k fun b hb=>no _ _ (r.nu b hb) (Ne.symm hx) nofun nofun,fun b hb=>tr _ _ (r.nu b hb) nofun⟩,
  fun hx=>⟨r.dC.eG k fun b hb=>no _ _ (r.lN b hb) (Ne.symm hx) nofun nofun,fun b hb=>tr _ _ (r.lN b hb) nofun⟩,
  fun hx=>⟨ir r.bs k fun b hb=>no _ _ (r.Ig b hb) (Ne.symm hx) nofun nofun,fun b hb=>tr _ _ (r.Ig b hb) nofun⟩,r.ll,fun i o L hx h1 h2=>?_,
  fun hx=>⟨ir r.rs k fun b hb=>no _ _ (r.Hx b hb) (Ne.symm hx) nofun nofun,fun b hb=>tr _ _ (r.Hx b hb) nofun⟩,
  fun hx=>⟨r.gs.gK k fun b hb=>no _ _ (r.Jl b hb) (Ne.symm hx) nofun nofun,fun b hb=>tr _ _ (r.Jl b hb) nofun⟩,
  fun hx=>⟨ir r.ts k fun b hb=>no _ _ (r.Ki b hb) (Ne.symm hx) nofun nofun,fun b hb=>tr _ _ (r.Ki b hb) nofun⟩⟩
 have x0:=(r.bl i o L h1 h2).eG k fun b hb=>no _ _ hb (Ne.symm hx) nofun nofun
 cases o<;>cases L<;>first|exact x0|exact⟨x0.1,fun b hb=>tr _ _ (x0.2 b hb) nofun⟩
theorem gh {bR:Nat→io}{n:Nat}{P:Nat→Prop}[DecidablePred P] {x:io} {b:Nat} (h:b<n):nR bR n P x b=bR b:=by unfold nR;rw [if_neg (by omega)]
theorem qq {bR:Nat→io}{n:Nat}{P:Nat→Prop}[DecidablePred P] {x:io} {b:Nat} (h:n≤b) (hp:P b):nR bR n P x b=x:=by unfold nR;rw [if_pos ⟨h,hp⟩]
theorem qp {bR:Nat→io}{n:Nat}{P:Nat→Prop}[DecidablePred P] {x:io} {b:Nat} (h:bR b=.out) (hp:¬P b):nR bR n P x b=.out:=by unfold nR;rw [if_neg (fun c=>hp c.2)];exact h
theorem dP.Qx(r:dP h hb bR m G){L':jt}{DB:List dg}(ha:Ar h' L' m.hz DB)(g:Grown h G.Lh L' h'):
  dP h' hb (nR bR h.size L'.fp .dJ) {m with dJ:=DB} {G with Lh:=L'}:=by
 have hS:∀b,G.Lh.fp b→bR b=io.dJ∨bR b=.hd∨bR b=.out:=fun b hb=>.inl (r.nu b hb)
 have p:=r.part (x:=.dJ) g.gK hS (cR:=nR bR h.size L'.fp .dJ) (fun b hb=>gh hb) fun b hb=>qp (r.fresh b (bP g.gK.1 hb)) fun hf=>by have:=ha.lt b hf;omega
 have oZ:eM h' hb (kB {m with dJ:=DB} {G with Lh:=L'}):=by
  have:=bF g.gK r.row fun hf=>by have:=r.nu _ hf;rw [r.rh]at this;cases this
  unfold kB at this ⊢
  simp only [g.pb]
  exact this
 exact⟨oZ,p.rh,p.fresh,ha,fun b hb=>by
   rcases eS b h.size with hl|hl
   ·rw [gh hl]
    rcases g.fp b hb with h|h
    ·exact r.nu b h
    ·omega
   ·exact qq hl hb,
  (p.dC nofun).1,(p.dC nofun).2,(p.bs nofun).1,(p.bs nofun).2,p.ll,fun i o L h1 h2=>p.bl i o L nofun h1 h2,(p.rs nofun).1,(p.rs nofun).2,(p.gs nofun).1,(p.gs nofun).2,(p.ts nofun).1,(p.ts nofun).2⟩
theorem dP.KE(r:dP h hb bR m G){L':jt}{DB:List dg}(ha:Ar h' L' m.sz DB)(g:Grown h G.Ls L' h'):
  dP h' hb (nR bR h.size L'.fp .dC) {m with dC:=DB} {G with Ls:=L'}:=by
 have hS:∀b,G.Ls.fp b→bR b=io.dC∨bR b=.hd∨bR b=.out:=fun b hb=>.inl (r.lN b hb)
 have p:=r.part (x:=.dC) g.gK hS (cR:=nR bR h.size L'.fp .dC) (fun b hb=>gh hb) fun b hb=>qp (r.fresh b (bP g.gK.1 hb)) fun hf=>by have:=ha.lt b hf;omega
 have oZ:eM h' hb (kB {m with dC:=DB} {G with Ls:=L'}):=by
  have:=bF g.gK r.row fun hf=>by have:=r.lN _ hf;rw [r.rh]at this;cases this
  unfold kB at this ⊢
  simp only [g.pb]
  exact this
 exact⟨oZ,p.rh,p.fresh,(p.dJ nofun).1,(p.dJ nofun).2,ha,fun b hb=>by
   rcases eS b h.size with hl|hl
   ·rw [gh hl]
    rcases g.fp b hb with h|h
    ·exact r.lN b h
    ·omega
   ·exact qq hl hb,
  (p.bs nofun).1,(p.bs nofun).2,p.ll,fun i o L h1 h2=>p.bl i o L nofun h1 h2,(p.rs nofun).1,(p.rs nofun).2,(p.gs nofun).1,(p.gs nofun).2,(p.ts nofun).1,(p.ts nofun).2⟩
theorem dP.Qw(r:dP h hb bR m G){i:Nat}{o o':dg}{L:jt}(ho:m.blocks[i]?=some (some o)) (hL:G.jW[i]?=some (some L)) (vF:o'.size=o.size) (ha:Ar h' L (o.size+1) [o']) (k:bY L.fp h h') :
  dP h' hb bR {m with blocks:=m.blocks.set i (some o')} G:=by
 have hx:=r.bl i _ _ ho hL
 have p:=r.part (x:=.Dg i) k (fun b hb=>.inl (hx.2 b hb)) (cR:=bR) (fun _ _=>rfl) fun b hb=>r.fresh b (bP k.1 hb)
 have oZ:eM h' hb (kB {m with blocks:=m.blocks.set i (some o')} G):=bF k r.row fun hf=>by have:=hx.2 _ hf;rw [r.rh]at this;cases this
 refine⟨oZ,p.rh,p.fresh,(p.dJ nofun).1,(p.dJ nofun).2,(p.dC nofun).1,(p.dC nofun).2,(p.bs nofun).1,(p.bs nofun).2,by rw [cd];exact p.ll,fun j x Lx h1 h2=>?_,(p.rs nofun).1,(p.rs nofun).2,(p.gs nofun).1,(p.gs nofun).2,(p.ts nofun).1,(p.ts nofun).2⟩
 have iZ:=(bp.1 ho).1
 by_cases hj:j=i
 ·subst hj
  rw [hL]at h2
  obtain rfl:=bt h2
  have h1:(m.blocks.set j (some o'))[j]?=some x:=h1
  rw [cE iZ]at h1
  obtain rfl:=bt h1
  exact⟨by rw [vF];exact ha,hx.2⟩
 ·have h1:(m.blocks.set i (some o'))[j]?=some x:=h1
  rw [dl (Ne.symm hj)]at h1
  exact p.bl j x Lx (fun e=>hj (by cases e;rfl)) h1 h2
end
end Go.Ev
