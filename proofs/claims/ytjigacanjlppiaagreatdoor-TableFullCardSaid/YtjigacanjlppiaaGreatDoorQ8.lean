/- Alloc: as the document's heap. No condition. -/
import Derived.Test.YtjigacanjlppiaaGreatDoorQ7
set_option linter.all false
set_option maxRecDepth 1000000
open Go.IntKind (wrap)
namespace Go.Ev
open Go.Proofs
instance (k r w:Int):Decidable (pY k r w):=inferInstanceAs (Decidable ((_∧_)∧(_∧_)∧(_∧_)))
namespace RS
def CX(k r w:Nat)(Au:Bool)(pl:Nat):nW:=⟨k,List.replicate r 0,List.replicate w 0,Au,pl⟩
def js(s:RS)(k r w:Nat):RS:={s with dG:=s.dG++[s.eB.length],eB:=s.eB++[CX k r w false s.cZ],cZ:=s.cZ+(1+r+w)}
def ff:LN→Nat
 | []=>0
 |x::l=>if x=0 then 0 else ff l+1
def gX(s:RS)(k r w:Nat):RS :=
 {s with
  dI:=s.dI+(2+r+w)
  gU:=s.gU+(2+r+w)
  cK:=(if ff s.cK<s.cK.length then s.cK.set (ff s.cK) s.eB.length else s.cK++[s.eB.length])
  eB:=s.eB++[CX k r w true (ff s.cK)]}
def jX(s:RS)(b:Nat):RS:=if s.cM<2*s.dJ+s.dI+b∨s.dJ+s.gK<s.gU+b then s.collect else s
def jN(s:RS)(k r w:Nat):RS × Nat × Int :=
 if s.cM<2*s.dJ+s.dI+(2+r+w)then
  (if s.cM<s.dI+(2+r+w)∨(s.cM-s.dI-(2+r+w)) / 2<64∨(s.cM-s.dI-(2+r+w)) / 2<s.cZ then(s,0,31)
  else((s.eY ((s.cM-s.dI-(2+r+w)) / 2)).gX k r w,qO+ff s.cK,0))
 else(s.gX k r w,qO+ff s.cK,0)
def block(s:RS)(k r w:Nat):RS × Nat × Int:=(s.jX (2+r+w)).jN k r w
def lO(s:RS)(n:Nat):RS:=if s.dJ<s.cZ+n then s.ci.tH n else s
def oA(s:RS)(k r w:Nat):RS × Nat × Int:=if s.dJ<s.cZ+(1+r+w)then(s,0,31)else(s.js k r w,s.cZ,0)
def alloc(s:RS)(k r w:Int):RS × Nat × Int :=
 if pY k r w then
  (if 64<1+r.toNat+w.toNat then s.block k.toNat r.toNat w.toNat else(s.lO (1+r.toNat+w.toNat)).oA k.toNat r.toNat w.toNat)
 else(s,0,34)
theorem xU:∀(l:LN) (i:Nat),(∀j,j<i→∃x,l[j]?=some x∧x≠0)→(l[i]?=some 0∨i=l.length)→ff l=i
 | [],i,h,e=>by
  rcases e with e|e
  ·simp at e
  ·rw [e];rfl
 |y::l,0,_,e=>by
  rcases e with e|e
  ·obtain rfl:y=0:=by simpa using e
   rfl
  ·simp at e
 |y::l,i+1,h,e=>by
  obtain⟨x,hx,h0⟩:=h 0 (by omega)
  obtain rfl:y=x:=by simpa using hx
  show (if y=0 then 0 else ff l+1)=i+1
  rw [if_neg h0,xU l i (fun j hj=>by have:=h (j+1) (by omega);simpa using this) (by simpa using e)]
theorem pv:∀(l:LN),ff l≤l.length∧(ff l<l.length→l[ff l]?=some 0)∧(∀j,j<ff l→∃x,l[j]?=some x∧x≠0)
 | []=>⟨bH _,nofun,nofun⟩
 |y::l=>by
  obtain⟨h1,h2,h3⟩:=pv l
  by_cases hy:y=0
  ·subst hy
   exact⟨cP _,fun _=>rfl,nofun⟩
  ·have e:ff (y::l)=ff l+1:=if_neg hy
   rw [e]
   refine⟨Nat.succ_le_succ h1,fun h=>?_,fun j hj=>?_⟩
   ·rw [oY];exact h2 (by simpa using h)
   ·cases j with
    |zero=>exact⟨y,rfl,hy⟩
    |succ j=>rw [oY];exact h3 j (by omega)
section
variable {s:RS}
theorem R6(s t:RS)(o:nW)(e:t.eB=s.eB++[o])(x:Nat):t.dS x=if x=s.eB.length then o else s.dS x:=by
 unfold dS
 rw [e,bB,bB]
 rcases mW x s.eB.length with h|h|h
 ·rw [bL h,if_neg (by omega)]
 ·subst h
  rw [bN (bH _),dD,if_pos rfl];rfl
 ·rw [bV (by simp;omega),bV (by omega),if_neg (by omega)]
theorem pB {t:RS}{o:nW}(e:t.eB=s.eB++[o]){x:Nat}(hx:x<s.eB.length):t.dS x=s.dS x:=by rw [R6 s t o e,if_neg (by omega)]
theorem sy {t:RS}{o:nW}(e:t.eB=s.eB++[o]):t.dS s.eB.length=o:=by rw [R6 s t o e,if_pos rfl]
theorem R5(v:s.Inv){t:RS}{o:nW}(e:t.eB=s.eB++[o]){x:Nat}(hx:x=0∨s.da x):t.fk x=s.fk x:=by
 unfold fk
 by_cases h0:x=0
 ·rw [if_pos h0,if_pos h0]
 ·rw [pB e (v.kz (hx.resolve_left h0))]
theorem DR(v:s.Inv){t:RS}{o:nW}(e:t.eB=s.eB++[o]){x:Nat}(hx:s.da x):t.enc x=s.enc x:=by
 unfold enc
 rw [pB e (v.kz hx)]
 congr 1
 exact cD fun y hy=>R5 v e (v.rf x hx y hy)
theorem FX {t:RS}{k r w pl:Nat}{Au:Bool}(e:t.eB=s.eB++[CX k r w Au pl]):t.enc s.eB.length=qn k r w:=by
 unfold enc
 rw [sy e]
 show (⟨k,(List.replicate r 0).map t.fk,List.replicate w 0,none⟩:dg)=⟨k,List.replicate r 0,List.replicate w 0,none⟩
 rw [List.map_replicate,iQ]
theorem Il(v:s.Inv){t:RS}{o:nW}(e:t.eB=s.eB++[o]):s.bC.map t.hZ=s.bC.map s.hZ:=by
 refine cD fun x hx=>?_
 cases x with
 |none=>rfl
 |some id=>show (true,_)=(true,_);rw [R5 v e (v.rt id hx)]
theorem vB {t:RS}{o:nW}(e:t.eB=s.eB++[o]){x:Nat}(hx:x<s.eB.length):t.size x=s.size x:=by unfold size;rw [pB e hx]
theorem QU(k r w pl:Nat)(b:Bool):(CX k r w b pl).size=1+r+w:=by unfold CX nW.size;simp
theorem VR {k r w pl:Nat}{b:Bool}(h1:1≤k)(h2:k≤255)(h3:r≤1048576)(h4:w≤1048576):1≤(CX k r w b pl).kind∧(CX k r w b pl).kind≤255∧(CX k r w b pl).cY.length≤1048576∧(CX k r w b pl).cN.length≤1048576∧∀x∈(CX k r w b pl).cN,x<18446744073709551616 :=
 ⟨h1,h2,by simpa [CX]using h3,by simpa [CX]using h4,fun x hx=>by have hx:x∈List.replicate w 0:=hx;rw [(gE.1 hx).2];omega⟩
theorem Inv.js(v:s.Inv){k r w:Nat}(h1:1≤k)(h2:k≤255)(h3:r≤1048576)(h4:w≤1048576)(h5:1+r+w≤64)(h6:s.cZ+(1+r+w)≤s.dJ):(s.js k r w).Inv:=by
 have e:(s.js k r w).eB=s.eB++[CX k r w false s.cZ]:=rfl
 have fE:∀x∈s.dG,x<s.eB.length:=fun x hx=>(v.sm x hx).2.1
 have hnm:s.eB.length∉s.dG:=fun h=>by have:=fE _ h;omega
 have Uh:∀x∈s.dG,(s.js k r w).size x=s.size x:=fun x hx=>vB e (fE x hx)
 have LJ:∀x,(s.js k r w).da x→s.da x∨x=s.eB.length:=fun x hx=>by
  rcases hx with hx|hx
  ·rcases bI.1 (show x∈s.dG++[s.eB.length]from hx)with hx|hx
   ·exact .inl (.inl hx)
   ·exact .inr (bM.1 hx)
  ·exact .inl (.inr hx)
 have hup:∀x,s.da x→(s.js k r w).da x:=fun x hx=>hx.imp_left fun hx=>bW _ hx
 have Ou:(s.js k r w).size s.eB.length=1+r+w:=by unfold size;rw [sy e,QU]
 refine⟨v.l1,v.l2,v.h1,v.h2,?_,h6,?_,v.Sp,v.rl,?_,?_,?_,?_,?_,?_,?_,v.kp,v.sn⟩
 ·show s.cZ+(1+r+w)=1+(s.js k r w).fG (s.dG++[s.eB.length])
  rw [sK,oN Uh,Ou,v.u1]
  omega
 ·show s.dI=(s.cK.map _).sum
  rw [v.lg]
  congr 1
  refine cD fun x hx=>?_
  by_cases h0:x=0
  ·rw [if_pos h0,if_pos h0]
  ·rw [if_neg h0,if_neg h0,vB e (v.kz (.inr ⟨h0,hx⟩))]
 ·show (s.dG++[s.eB.length]).Nodup
  rw [cu]
  exact⟨v.VP,by simp,fun a ha b hb=>by rw [bM.1 hb];exact fun e=>hnm (e▸ha)⟩
 ·intro x hx
  show 0<x∧x<(s.eB++[CX k r w false s.cZ]).length∧_∧_∧_=(s.js k r w).gq (s.dG++[s.eB.length]) 1 x
  rw [bG]
  rcases bI.1 (show x∈s.dG++[s.eB.length]from hx)with hx|hx
  ·obtain⟨q1,q2,q3,q4,q5⟩:=v.sm x hx
   rw [pB e q2,Uh x hx,lR _ _ _ _ hx,lH _ _ _ Uh]
   exact⟨q1,by simp;omega,q3,q4,q5⟩
  ·obtain rfl:=bM.1 hx
   rw [sy e,Ou,sj _ _ _ hnm,oN Uh]
   exact⟨v.ob,by simp,rfl,h5,v.u1⟩
 ·intro i x hi h0
  obtain⟨q1,q2,q3,q4⟩:=v.sl i x hi h0
  show x<(s.eB++[CX k r w false s.cZ]).length∧_
  rw [bG,pB e q1,vB e q1]
  exact⟨by simp;omega,q2,q3,q4⟩
 ·intro x hx y hy
  rcases LJ x hx with hx|rfl
  ·rw [pB e (v.kz hx)]at hy
   exact(v.rf x hx y hy).imp_right (hup y)
  ·rw [sy e]at hy
   exact .inl (gE.1 hy).2
 ·intro x hx
  exact(v.rt x hx).imp_right (hup x)
 ·intro x hx
  rcases LJ x hx with hx|rfl
  ·rw [pB e (v.kz hx)];exact v.NK x hx
  ·rw [sy e];exact VR h1 h2 h3 h4
 ·show 1≤(s.eB++[CX k r w false s.cZ]).length
  simp
theorem Sn(v:s.Inv)(h:∀i,i<s.cK.length→∃x,s.cK[i]?=some x∧x≠0):66*s.cK.length≤s.dI:=by
 rw [v.lg]
 have:∀l:LN,(∀x∈l,x≠0∧64<s.size x)→66*l.length≤(l.map fun id=>if id=0 then 0 else s.size id+1).sum:=by
  intro l
  induction l with
  |nil=>intro _;exact bH _
  |cons y l ih =>
   intro hl
   have h1:=hl y (bQ ..)
   have h2:=ih fun x hx=>hl x (bJ _ hx)
   rw [cU,f8,if_neg h1.1,dF]
   omega
 refine this _ fun x hx=>?_
 obtain⟨i,hi⟩:=bT.1 hx
 obtain⟨y,hy,h0⟩:=h i (bp.1 hi).1
 rw [hi]at hy
 obtain rfl:=bt hy
 exact⟨h0,(v.sl i x hi h0).2.2.1⟩
theorem pD(s:RS)(k r w:Nat):(s.gX k r w).cK=if ff s.cK<s.cK.length then s.cK.set (ff s.cK) s.eB.length else s.cK++[s.eB.length]:=rfl
theorem oW(s:RS)(k r w i:Nat):(s.gX k r w).cK[i]?=if i=ff s.cK then some s.eB.length else s.cK[i]?:=by
 obtain⟨h1,h2,h3⟩:=pv s.cK
 rw [pD]
 split
 ·rename_i h
  by_cases hi:i=ff s.cK
  ·rw [if_pos hi,hi,cE h]
  ·rw [if_neg hi,dl (Ne.symm hi)]
 ·rename_i h
  have hf:ff s.cK=s.cK.length:=by omega
  rw [hf]
  rcases mW i s.cK.length with hi|hi|hi
  ·rw [bL hi,if_neg (by omega)]
  ·rw [if_pos hi,hi,bN (bH _),dD];rfl
  ·rw [bV (by simp;omega),if_neg (by omega),bV (by omega)]
theorem Qq {f:Nat→Nat}{x:Nat}:∀ {l:LN} {i y:Nat},l[i]?=some y→((l.set i x).map f).sum+f y=(l.map f).sum+f x
 | [],i,y,h=>by simp at h
 |z::l,0,y,h=>by
  obtain rfl:z=y:=by simpa using h
  simp;omega
 |z::l,i+1,y,h=>by
  have:=Qq (f:=f) (x:=x) (l:=l) (i:=i) (y:=y) (by simpa using h)
  simp only [fg,cU,f8]
  omega
theorem Inv.gX(v:s.Inv){k r w:Nat}(h1:1≤k)(h2:k≤255)(h3:r≤1048576)(h4:w≤1048576)(h5:64<1+r+w)(h6:2*s.dJ+s.dI+(2+r+w)≤s.cM) (h7:s.gU+(2+r+w)≤2097152):(s.gX k r w).Inv:=by
 have e:(s.gX k r w).eB=s.eB++[CX k r w true (ff s.cK)]:=rfl
 obtain⟨q1,q2,q3⟩:=pv s.cK
 have fE:∀x,s.da x→x<s.eB.length:=fun x hx=>v.kz hx
 have xb:=v.ob
 have hup:∀x,s.da x→(s.gX k r w).da x:=fun x hx=>by
  refine hx.imp_right fun⟨h0,hx⟩=>⟨h0,?_⟩
  obtain⟨i,hi⟩:=bT.1 hx
  refine bT.2 ⟨i,?_⟩
  rw [oW,if_neg fun hf=>?_]
  ·exact hi
  ·have:=q2 (by rw [←hf];exact(bp.1 hi).1)
   rw [←hf,hi]at this
   exact h0 (bt this)
 have LJ:∀x,(s.gX k r w).da x→s.da x∨x=s.eB.length:=fun x hx=>by
  rcases hx with hx|⟨h0,hx⟩
  ·exact .inl (.inl hx)
  ·obtain⟨i,hi⟩:=bT.1 hx
   rw [oW]at hi
   split at hi
   ·exact .inr (bt hi).symm
   ·exact .inl (.inr ⟨h0,bx hi⟩)
 have Ou:(s.gX k r w).size s.eB.length=1+r+w:=by unfold size;rw [sy e,QU]
 have hsm:∀x∈s.dG,(s.gX k r w).size x=s.size x:=fun x hx=>vB e (v.sm x hx).2.1
 have HX:=v.l2
 have ZO:=v.h1
 refine⟨v.l1,v.l2,v.h1,?_,?_,v.u2,?_,?_,v.rl,v.VP,?_,?_,?_,?_,?_,?_,v.kp,h7⟩
 ·show 2*s.dJ+(s.dI+(2+r+w))≤s.cM;omega
 ·show s.cZ=1+(s.gX k r w).fG s.dG
  rw [oN hsm];exact v.u1
 ·show s.dI+(2+r+w)=((s.gX k r w).cK.map _).sum
  have eo:∀x∈s.cK,(if x=0 then 0 else(s.gX k r w).size x+1)=if x=0 then 0 else s.size x+1:=fun x hx=>by
   by_cases h0:x=0
   ·rw [if_pos h0,if_pos h0]
   ·rw [if_neg h0,if_neg h0,vB e (fE x (.inr ⟨h0,hx⟩))]
  have es:(s.cK.map fun x=>if x=0 then 0 else(s.gX k r w).size x+1).sum=s.dI:=by rw [cD eo,v.lg]
  have en:(if s.eB.length=0 then 0 else(s.gX k r w).size s.eB.length+1)=2+r+w:=by rw [if_neg (by omega),Ou];omega
  rw [pD]
  split
  ·rename_i h
   have:=Qq (f:=fun x=>if x=0 then 0 else(s.gX k r w).size x+1) (x:=s.eB.length) (q2 h)
   simp only [if_true]at this
   rw [en]at this
   omega
  ·rw [cx,iG,es]
   show s.dI+_=s.dI+((if s.eB.length=0 then 0 else(s.gX k r w).size s.eB.length+1)+0)
   rw [en];rfl
 ·rw [pD]
  split
  ·rw [cd];exact v.Sp
  ·rename_i h
   have:=Sn v fun i hi=>q3 i (by omega)
   rw [bG]
   show s.cK.length+1≤_
   omega
 ·intro x hx
  obtain⟨p1,p2,p3,p4,p5⟩:=v.sm x hx
  show 0<x∧x<(s.eB++[CX k r w true (ff s.cK)]).length∧_∧_∧_=(s.gX k r w).gq s.dG 1 x
  rw [bG,pB e p2,hsm x hx,lH _ _ _ hsm]
  exact⟨p1,by simp;omega,p3,p4,p5⟩
 ·intro i x hi h0
  rw [oW]at hi
  show x<(s.eB++[CX k r w true (ff s.cK)]).length∧_
  rw [bG]
  split at hi
  ·rename_i hif
   obtain rfl:=bt hi
   rw [sy e,Ou]
   exact⟨by simp,rfl,h5,hif.symm⟩
  ·obtain⟨p1,p2,p3,p4⟩:=v.sl i x hi h0
   rw [pB e p1,vB e p1]
   exact⟨by simp;omega,p2,p3,p4⟩
 ·intro x hx y hy
  rcases LJ x hx with hx|rfl
  ·rw [pB e (v.kz hx)]at hy
   exact(v.rf x hx y hy).imp_right (hup y)
  ·rw [sy e]at hy
   exact .inl (gE.1 hy).2
 ·intro x hx
  exact(v.rt x hx).imp_right (hup x)
 ·intro x hx
  rcases LJ x hx with hx|rfl
  ·rw [pB e (v.kz hx)];exact v.NK x hx
  ·rw [sy e];exact VR h1 h2 h3 h4
 ·show 1≤(s.eB++[CX k r w true (ff s.cK)]).length
  simp
theorem Inv.jX(v:s.Inv)(b:Nat):(s.jX b).Inv:=by
 unfold RS.jX
 split
 ·exact v.collect
 ·exact v
theorem wq(s:RS)(n:Nat):(s.eY n).gU=s.gU:=by unfold RS.eY;split<;>rfl
theorem Tp(s:RS)(n:Nat):(s.tH n).gU=s.gU:=by
 unfold RS.tH
 split
 ·split
  ·exact wq _ _
  ·rfl
 ·split
  ·exact wq _ _
  ·rfl
theorem JZ(s:RS)(b:Nat):(s.jX b).gU=0∨(s.jX b).gU+b≤(s.jX b).dJ+(s.jX b).gK:=by
 unfold RS.jX
 split
 ·left
  show (s.ci.tH 0).gU=0
  rw [Tp];rfl
 ·right;omega
theorem Inv.jN(v:s.Inv){k r w:Nat}(h1:1≤k)(h2:k≤255)(h3:r≤1048576)(h4:w≤1048576)(h5:64<1+r+w)(h7:s.gU=0∨s.gU+(2+r+w)≤s.dJ+s.gK):(s.jN k r w).1.Inv:=by
 have q1:=v.kp;have q2:=v.h2;have q3:=v.l2
 unfold RS.jN
 split
 ·split
  ·exact v
  ·rename_i hn
   have v2:=v.eY (n:=(s.cM-s.dI-(2+r+w)) / 2) (by omega) (by omega) (by omega)
   refine v2.gX h1 h2 h3 h4 h5 ?_ (by rw [wq];omega)
   unfold RS.eY
   split
   ·omega
   ·show 2*((s.cM-s.dI-(2+r+w)) / 2)+s.dI+(2+r+w)≤s.cM
    omega
 ·exact v.gX h1 h2 h3 h4 h5 (by omega) (by omega)
theorem Inv.lO(v:s.Inv)(n:Nat):(s.lO n).Inv:=by
 unfold RS.lO
 split
 ·exact v.ci.tH
 ·exact v
theorem Inv.alloc(v:s.Inv)(k r w:Int):(s.alloc k r w).1.Inv:=by
 unfold RS.alloc
 split
 ·rename_i h
  obtain⟨⟨h1,h2⟩,⟨h3,h4⟩,h5,h6⟩:=h
  split
  ·exact(v.jX _).jN (by omega) (by omega) (by omega) (by omega) (by omega) (s.JZ _)
  ·unfold RS.oA
   split
   ·exact v.lO _
   ·exact(v.lO _).js (by omega) (by omega) (by omega) (by omega) (by omega) (by omega)
 ·exact v
end
end RS
namespace RS
section
variable {s:RS}
theorem F1(v:s.Inv)(k r w:Nat)(sp:List dg):(s.js k r w).dM sp={s.dM sp with dJ:=s.dG.map s.enc++[qn k r w]}:=by
 have e:(s.js k r w).eB=s.eB++[CX k r w false s.cZ]:=rfl
 unfold dM
 simp only [MH.mk.injEq]
 refine⟨rfl,rfl,?_,rfl,trivial,?_,rfl,trivial,rfl,rfl,rfl,Il v e,rfl,rfl,rfl,rfl⟩
 ·show (s.dG++[s.eB.length]).map _=_
  rw [cx,cD fun x hx=>DR v e (.inl hx)]
  show _++[_]=_
  rw [FX e]
 ·show s.cK.map _=_
  refine cD fun x hx=>?_
  by_cases h0:x=0
  ·rw [if_pos h0,if_pos h0]
  ·rw [if_neg h0,if_neg h0,DR v e (.inr ⟨h0,hx⟩)]
theorem J9(v:s.Inv)(k r w:Nat)(sp:List dg):(s.gX k r w).dM sp={s.dM sp with
  blocks:=(if ff s.cK<s.cK.length then(s.dM sp).blocks.set (ff s.cK) (some (qn k r w))else(s.dM sp).blocks++[some (qn k r w)])
  dL:=(if ff s.cK<s.cK.length then(s.dM sp).dL else(s.dM sp).dL++[false])
  dI:=s.dI+(2+r+w)
  gU:=s.gU+(2+r+w)}:=by
 have e:(s.gX k r w).eB=s.eB++[CX k r w true (ff s.cK)]:=rfl
 have xb:=v.ob
 have eo:(s.cK.map fun x=>if x=0 then none else some ((s.gX k r w).enc x))=s.cK.map fun x=>if x=0 then none else some (s.enc x):=by
  refine cD fun x hx=>?_
  by_cases h0:x=0
  ·rw [if_pos h0,if_pos h0]
  ·rw [if_neg h0,if_neg h0,DR v e (.inr ⟨h0,hx⟩)]
 have en:(if s.eB.length=0 then none else some ((s.gX k r w).enc s.eB.length))=some (qn k r w):=by rw [if_neg (by omega),FX e]
 unfold dM
 simp only [MH.mk.injEq]
 refine⟨rfl,rfl,?_,rfl,trivial,?_,?_,trivial,rfl,rfl,rfl,Il v e,rfl,rfl,rfl,rfl⟩
 ·show s.dG.map _=_
  exact cD fun x hx=>DR v e (.inl hx)
 ·rw [pD]
  split
  ·rw [ig,eo,en]
  ·rw [cx,eo]
   show _++[(if s.eB.length=0 then none else some ((s.gX k r w).enc s.eB.length))]=_
   rw [en]
 ·rw [pD]
  split
  ·apply cG
   intro i
   rw [bD,bD]
   by_cases hi:i<s.cK.length
   ·rw [br (by rw [cd];exact hi),br hi];rfl
   ·rw [bV (by rw [cd];omega),bV (by omega)]
  ·rw [cx];rfl
end
end RS
section
variable {h:Hp} {hb:Nat} {bR:Nat→io} {G:xd} {s:RS} {sp:List dg}
theorem FU(v:s.Inv)(rp:dP h hb bR (s.dM sp) G) {k r w:Nat} (h1:1≤k) (h2:k≤255) (h3:r≤1048576) (h4:w≤1048576) (h5:64<1+r+w) (h6:2*s.dJ+s.dI+(2+r+w)≤s.cM) {R:RP}
  (hR:∀h' cR G',dP h' hb cR ((s.gX k r w).dM sp) G'→iV h bR h' cR→R (vt #[uv (qO+RS.ff s.cK),vi 0]) h') :
  bq PG 105 #[vi (2+r+w:Nat)] h fun r' h8=>∃NF:OA,∃agj:Int,r'=vt #[vp NF,vi agj]∧bq PG 141 #[vp NF,vi (k:Nat),vi (r:Nat),vi (w:Nat)] h8 fun r' h9=>∃agi:Int,∃agh:Int,r'=vt #[vi agi,vi agh]∧bE (sa hb) fun ar7=>∃akN:Int,cell h9 (ar7.add 6)=some (vi akN)∧bE (sa hb) fun alB=>gZ h9 (alB.add 6)∧gi (fy h9 (alB.add 6) (vi (wrap .i64 (akN+(2+r+w:Nat))))) fun Dq=>bE (sa hb) fun ar6=>∃akM:Int,cell Dq (ar6.add 7)=some (vi akM)∧bE (sa hb) fun alA=>gZ Dq (alA.add 7)∧gi (fy Dq (alA.add 7) (vi (wrap .i64 (akM+(2+r+w:Nat))))) fun Aj=>bE (sa hb) fun aaP=>∃aae:Sl,cell Aj (aaP.add 3)=some (.slice aae.a aae.n aae.c)∧dO (kJ PG fN xI (sub [1,1,1,1,1,1,1,1,1,0,1,0,0] (bd Tryz.f140))) (dW PG fN xI [1,1,1,1,1,1,1,1,1,0,1,0] (bd Tryz.f140) [] (eJ PG Tryz.f140 [] R)) [(0,vp (sa hb)),(14,vp NF),(158,vi ((aae.n:Int))),(159,vi 0)] 208 Aj:=by
 have i2:=v.h2;have i4:=v.l2;have i5:=v.Sp;have i6:=v.h1;have i7:=v.u2
 have ht:qO=9223372036854775808:=rfl
 have Kl:=v.sn
 refine BA (fun jz=>absurd ⟨by omega,by omega⟩ jz) fun L1 ha _ a1 f1 k1=>⟨_,_,rfl,?_⟩
 rw [bu]at a1
 obtain⟨wc,fc,fs,ra⟩:=a1
 have S7:pY (k:Nat) (r:Nat) (w:Nat):=⟨⟨by omega,by omega⟩,⟨by omega,by omega⟩,by omega,by omega⟩
 have hu0:Go.Ev.cZ ([]:List dg)=1:=Kx
 refine Iq ra (fun jz=>absurd S7 jz) (fun _ hf=>by rw [hu0]at hf;omega) fun hc L2 _ _ a2 g2=>⟨_,_,rfl,bw ?_⟩
 rw [bu,bu,bu,eU]at a2
 have atf:(qn k r w).size+1=2+r+w:=by rw [qm];omega
 rw [←atf]at a2
 have kc:bY (fun b=>L1.fp b) h hc:=(k1.mono fun _ _ e=>e.elim).trans g2.gK
 have hfr:∀b,L2.fp b→h.size≤b:=fun b fV=>by
  rcases g2.fp b fV with h|h
  ·exact f1 b h
  ·have:=k1.1;omega
 have fE:∀b,L2.fp b→b<hc.size:=a2.lt
 have ng:dP hc hb bR (s.dM sp) G:=rp.eG kc fun b fV=>rp.fresh b (f1 b fV)
 have x1:iV h bR hc bR:=⟨kc.1,fun b fV ho=>⟨ho,kc.2 b fV fun e=>by have:=f1 b e;omega⟩⟩
 have hro:∀b,L2.fp b→bR b=.out:=fun b fV=>rp.fresh b (hfr b fV)
 have c6:cell hc ((ad hb).add 6)=some (vi (s.dI:Nat)):=(ng.c 6).trans rfl
 refine⟨_,c6,bw ?_⟩
 have ev6:wrap .i64 ((s.dI:Int)+((2+r+w:Nat):Int))=((s.dI+(2+r+w):Nat):Int):=by rw [d9 (by omega) (by omega)];omega
 rw [ev6]
 refine ng.num (i:=6) (m':={s.dM sp with dI:=s.dI+(2+r+w)}) (cm _ _) (by omega) rfl rfl rfl rfl rfl rfl rfl rfl rfl fun hd Dx x3=>bw ?_
 have c7:cell hd ((ad hb).add 7)=some (vi (s.gU:Nat)):=(Dx.c 7).trans rfl
 refine⟨_,c7,bw ?_⟩
 have ev7:wrap .i64 ((s.gU:Int)+((2+r+w:Nat):Int))=((s.gU+(2+r+w):Nat):Int):=by rw [d9 (by omega) (by omega)];omega
 rw [ev7]
 refine Dx.num (i:=7) (m':={s.dM sp with dI:=s.dI+(2+r+w),gU:=s.gU+(2+r+w)}) (cm _ _) (by omega) rfl rfl rfl rfl rfl rfl rfl rfl rfl fun he Vh x4=>bw ?_
 have kof:∀ {a b:Hp},pS a bR b bR→bY (fun b=>bR b≠.out) a b:=fun x=>⟨x.1,fun b fV hn=>x.2.2 b fV (by
  cases hx:bR b<;>first|rfl|exact absurd (show bR b≠.out by rw [hx];nofun) hn)⟩
 have a4:Ar he L2 ((qn k r w).size+1) [qn k r w]:=a2.eG (kof (x3.trans x4)) fun b fV hn=>hn (hro b fV)
 have ahO:∀b,L2.fp b→b<he.size:=a4.lt
 have SB:=Vh.N0 (P:=L2.fp) (.Dg (RS.ff s.cK)) fun b fV=>⟨hro b fV,ahO b fV⟩
 have x5:=((x1.trans x3.o).trans x4.o).N0 (P:=L2.fp) (.Dg (RS.ff s.cK)) hfr
 have hLr:∀b,L2.fp b→reR bR L2.fp (.Dg (RS.ff s.cK)) b=.Dg (RS.ff s.cK):=fun b fV=>agD fV
 have c3:cell he ((ad hb).add 3)=some (.slice G.bs.a G.bs.n G.bs.c):=(SB.c 3).trans rfl
 have F4:=SB.M7
 have F4:G.bs.n=(s.cK.map fun id=>if id=0 then none else some (s.enc id)).length:=F4
 rw [bA]at F4
 have AJ:=SB.ll
 have AJ:G.jW.length=(s.cK.map fun id=>if id=0 then none else some (s.enc id)).length:=AJ
 rw [bA]at AJ
 have B9:=RS.J9 v k r w sp
 refine⟨G.bs,c3,?_⟩
 rw [F4]
 refine MC (fun q s0 uP Ez Ey h'=>∃i:Nat,i≤s.cK.length∧q=s.cK.length-i∧s0=some (ad hb)∧uP=some (ad L2.pb)∧Ez=(s.cK.length:Int)∧Ey=(i:Int)∧h'=he∧∀j,j<i→∃x,s.cK[j]?=some x∧x≠0) s.cK.length
  ⟨0,cP _,rfl,rfl,by rw [g2.pb],rfl,rfl,rfl,fun j hj=>absurd hj (Nat.not_lt_zero _)⟩ ?_
 rintro q s0 uP Ez Ey g h' ⟨i,hi,rfl,rfl,rfl,rfl,rfl,rfl,Fk⟩
 unfold Pn
 have amE:∀n:Nat,n<9223372036854775808→Oa .u64 (9223372036854775808:Int) (wrap .u64 (n:Int))=((qO+n:Nat):Int):=fun n hn=>by
  rw [eN (by omega) (by omega),KX (by omega) (by omega)];omega
 refine ca (fun Fe=>?_) fun o5=>?_
 ·have Fe:i<s.cK.length:=by omega
  obtain⟨x,hx⟩:∃x,s.cK[i]?=some x:=⟨_,br Fe⟩
  have cb:(0:Int)≤(i:Int)∧(i:Int)<(G.bs.n:Int):=by omega
  have hL:G.jW[i]?=some G.jW[i]:=br (by omega)
  obtain⟨bb,LR,Np⟩:=SB.AV hL
  have hm:(s.cK.map fun id=>if id=0 then none else some (s.enc id))[i]?=some (if x=0 then none else some (s.enc x)):=by rw [bD,hx];rfl
  have zd:=SB.bl i _ _ hm hL
  generalize hLk:G.jW[i]=Lk at hL Np zd
  by_cases tF:x=0
  ·subst tF
   rw [if_pos rfl]at zd
   cases Lk with
   |some L=>exact zd.elim
   |none =>
    have hf:RS.ff s.cK=i:=RS.xU _ _ Fk (.inl hx)
    rw [hf]at hR B9 hLr SB x5
    rw [if_pos Fe,if_pos Fe]at B9
    obtain⟨b2,vW,st,rp6,x6⟩:=SB.aaJ (i:=i) (by show i<(s.cK.map _).length;rw [bA];exact Fe) a4 hLr
    rw [LR]at vW
    obtain rfl:bb=b2:=by simpa [ad]using vW
    refine bw ⟨G.bs,c3,cb,cW LR ⟨none,by rw [bu];exact Np,cr rfl (bw ⟨G.bs,c3,cb,cW LR ?_⟩)⟩⟩
    rw [bu]
    refine⟨st,?_⟩
    rw [amE i (by omega)]
    refine hR _ _ {G with jW:=G.jW.set i (some L2)} ?_ (x5.trans x6.o)
    rw [B9]
    exact rp6
  ·rw [if_neg tF]at zd
   cases Lk with
   |none=>exact zd.elim
   |some L =>
    have ZK:wrap .i64 ((i:Int)+1)=((i+1:Nat):Int):=by rw [d9 (by omega) (by omega)];rfl
    refine bw ⟨G.bs,c3,cb,cW LR ⟨some (ad L.pb),by rw [bu];exact Np,cj rfl ⟨s.cK.length-(i+1),by omega,i+1,Fe,rfl,rfl,rfl,rfl,ZK,rfl,fun j hj=>?_⟩⟩⟩
    rcases eS j i with HY|HY
    ·exact Fk j HY
    ·obtain rfl:j=i:=by omega
     exact⟨x,hx,tF⟩
 ·have hie:i=s.cK.length:=by omega
  have hf:RS.ff s.cK=i:=RS.xU _ _ Fk (.inr hie)
  rw [hf]at hR B9 hLr SB x5
  rw [if_neg (by omega),if_neg (by omega)]at B9
  have Wy:(s.cK.map fun id=>if id=0 then none else some (s.enc id)).length=i:=by rw [bA];exact hie.symm
  refine bw ⟨G.bs,c3,?_⟩
  refine SB.acS a4 (fun b fV=>(hLr b fV).trans (congrArg io.Dg Wy.symm)) (by show (s.cK.map _).length≤_;rw [bA];omega) fun h6 avE G6 rp6 x6=>?_
  have c4:cell h6 ((ad hb).add 4)=some (.slice G6.rs.a G6.rs.n G6.rs.c):=(rp6.c 4).trans rfl
  refine bw ⟨G6.rs,c4,?_⟩
  refine rp6.Zr (by show (s.cK.map _).length≤_;rw [bA];omega) fun h7 adC G7 rp7 e7 x7=>?_
  have Ti:=rp7.M7
  have Ti:G7.bs.n=((s.cK.map fun id=>if id=0 then none else some (s.enc id))++[some (qn k r w)]).length:=Ti
  rw [bG,Wy]at Ti
  have c37:cell h7 ((ad hb).add 3)=some (.slice G7.bs.a G7.bs.n G7.bs.c):=(rp7.c 3).trans rfl
  refine bw ⟨G7.bs,c37,?_⟩
  have Ti:G7.bs.n=i+1:=Ti
  have ev:wrap .i64 ((G7.bs.n:Int)-(1:Int))=(i:Int):=by rw [Ti,d9 (by omega) (by omega)];omega
  rw [ev,amE i (by omega)]
  refine hR h7 adC G7 ?_ ((x5.trans x6.o).trans x7.o)
  rw [B9]
  exact rp7
end
section
variable {h:Hp} {hb:Nat} {bR:Nat→io} {G:xd} {s:RS} {sp:List dg}
theorem akA {x:Int}(h1:-100000000≤x)(h2:x≤100000000):wrap .i64 (Int.tdiv x 2)=Int.tdiv x 2:=by
 apply d9
 ·rcases Int.lt_or_le x 0 with h|h
  ·have:Int.tdiv x 2=- ((-x) / 2):=by
    rw [←fD (by omega),Int.neg_tdiv];omega
   omega
  ·rw [fD h];omega
 ·rcases Int.lt_or_le x 0 with h|h
  ·have:Int.tdiv x 2=- ((-x) / 2):=by
    rw [←fD (by omega),Int.neg_tdiv];omega
   omega
  ·rw [fD h];omega
theorem RS.uA(s:RS)(n:Nat):(s.eY n).cM=s.cM∧(s.eY n).cZ=s.cZ∧(s.eY n).dI=s.dI∧(s.eY n).gK=s.gK∧(s.eY n).cK=s.cK∧(s.eY n).dJ=n∧(s.eY n).eB=s.eB∧(s.eY n).dG=s.dG∧(s.eY n).bC=s.bC:=by
 unfold RS.eY
 split
 ·rename_i h;exact⟨rfl,rfl,rfl,rfl,rfl,h.symm,rfl,rfl,rfl⟩
 ·exact⟨rfl,rfl,rfl,rfl,rfl,rfl,rfl,rfl,rfl⟩
theorem RS.OK(s:RS)(n:Nat):(s.tH n).cM=s.cM∧(s.tH n).cZ=s.cZ∧(s.tH n).dI=s.dI∧(s.tH n).gK=s.gK∧(s.tH n).cK=s.cK∧(s.tH n).eB=s.eB∧(s.tH n).dG=s.dG∧(s.tH n).bC=s.bC:=by
 have hb:=fun n=>s.uA n
 unfold RS.tH
 split
 ·split
  ·exact⟨(hb _).1,(hb _).2.1,(hb _).2.2.1,(hb _).2.2.2.1,(hb _).2.2.2.2.1,(hb _).2.2.2.2.2.2.1,(hb _).2.2.2.2.2.2.2.1,(hb _).2.2.2.2.2.2.2.2⟩
  ·exact⟨rfl,rfl,rfl,rfl,rfl,rfl,rfl,rfl⟩
 ·split
  ·exact⟨(hb _).1,(hb _).2.1,(hb _).2.2.1,(hb _).2.2.2.1,(hb _).2.2.2.2.1,(hb _).2.2.2.2.2.2.1,(hb _).2.2.2.2.2.2.2.1,(hb _).2.2.2.2.2.2.2.2⟩
  ·exact⟨rfl,rfl,rfl,rfl,rfl,rfl,rfl,rfl⟩
theorem RS.Hb(s:RS):s.collect.cM=s.cM:=(s.ci.OK 0).1
theorem PT(v:s.Inv)(rp:dP h hb bR (s.dM sp) G) {k r w:Nat} (h1:1≤k) (h2:k≤255) (h3:r≤1048576) (h4:w≤1048576) (h5:64<1+r+w) {R:RP}
  (hR:∀h' cR G' uK,dP h' hb cR ((s.jN k r w).1.dM uK) G'→iV h bR h' cR→R (vt #[uv (s.jN k r w).2.1,vi (s.jN k r w).2.2]) h') (hc:s.cM<2*s.dJ+s.dI+(2+r+w)) :
  (wrap .i64 ((wrap .i64 ((s.cM:Int)-(s.dI:Int)))-((2+r+w:Nat):Int))<0→R (vt #[vu 0,vi 31]) h) ∧
  (wrap .i64 (Int.tdiv (wrap .i64 ((wrap .i64 ((s.cM:Int)-(s.dI:Int)))-((2+r+w:Nat):Int))) (2:Int))<64→R (vt #[vu 0,vi 31]) h) ∧
  (wrap .i64 (Int.tdiv (wrap .i64 ((wrap .i64 ((s.cM:Int)-(s.dI:Int)))-((2+r+w:Nat):Int))) (2:Int))<(s.cZ:Int)→R (vt #[vu 0,vi 31]) h) ∧
  (¬wrap .i64 ((wrap .i64 ((s.cM:Int)-(s.dI:Int)))-((2+r+w:Nat):Int))<0 →
   ¬wrap .i64 (Int.tdiv (wrap .i64 ((wrap .i64 ((s.cM:Int)-(s.dI:Int)))-((2+r+w:Nat):Int))) (2:Int))<64 →
   ¬wrap .i64 (Int.tdiv (wrap .i64 ((wrap .i64 ((s.cM:Int)-(s.dI:Int)))-((2+r+w:Nat):Int))) (2:Int))<(s.cZ:Int) →
   ∃n:Nat,wrap .i64 (Int.tdiv (wrap .i64 ((wrap .i64 ((s.cM:Int)-(s.dI:Int)))-((2+r+w:Nat):Int))) (2:Int))=(n:Int)∧64≤n∧2*n+s.dI+(2+r+w)≤s.cM∧s.cZ≤n ∧
    s.jN k r w=((s.eY n).gX k r w,qO+RS.ff (s.eY n).cK,0)):=by
 have i2:=v.h2;have i4:=v.l2;have i6:=v.h1;have i7:=v.u2
 have e1:wrap .i64 ((s.cM:Int)-(s.dI:Int))=(s.cM:Int)-(s.dI:Int):=d9 (by omega) (by omega)
 have e2:wrap .i64 ((s.cM:Int)-(s.dI:Int)-((2+r+w:Nat):Int))=(s.cM:Int)-(s.dI:Int)-((2+r+w:Nat):Int):=d9 (by omega) (by omega)
 rw [e1,e2,akA (by omega) (by omega)]
 have L0:(s.cM<s.dI+(2+r+w)∨(s.cM-s.dI-(2+r+w)) / 2<64∨(s.cM-s.dI-(2+r+w)) / 2<s.cZ)→R (vt #[vu 0,vi 31]) h:=fun hf=>by
  have e:s.jN k r w=(s,0,31):=by unfold RS.jN;rw [if_pos hc,if_pos hf]
  rw [e]at hR
  exact hR h bR G sp rp (iV.refl h bR)
 have up:0≤(s.cM:Int)-(s.dI:Int)-((2+r+w:Nat):Int)→Int.tdiv ((s.cM:Int)-(s.dI:Int)-((2+r+w:Nat):Int)) 2=(((s.cM-s.dI-(2+r+w)) / 2:Nat):Int):=fun h0=>by
  rw [fD h0];omega
 refine⟨fun h0=>L0 (.inl (by omega)),fun h0=>?_,fun h0=>?_,fun c1 c2 c3=>?_⟩
 ·by_cases hn:0≤(s.cM:Int)-(s.dI:Int)-((2+r+w:Nat):Int)
  ·rw [up hn]at h0;exact L0 (.inr (.inl (by omega)))
  ·exact L0 (.inl (by omega))
 ·by_cases hn:0≤(s.cM:Int)-(s.dI:Int)-((2+r+w:Nat):Int)
  ·rw [up hn]at h0;exact L0 (.inr (.inr (by omega)))
  ·exact L0 (.inl (by omega))
 ·rw [up (by omega)]at c2 c3 ⊢
  refine⟨_,rfl,by omega,by omega,by omega,?_⟩
  unfold RS.jN
  rw [if_pos hc,if_neg (by omega),(s.uA _).2.2.2.2.1]
theorem Ij(v:s.Inv)(rp:dP h hb bR (s.dM sp) G) {k r w:Nat} (h1:1≤k) (h2:k≤255) (h3:r≤1048576) (h4:w≤1048576) (h5:64<1+r+w) {R:RP}
  (hR:∀h' cR G' uK,dP h' hb cR ((s.jN k r w).1.dM uK) G'→iV h bR h' cR→R (vt #[uv (s.jN k r w).2.1,vi (s.jN k r w).2.2]) h') {x65:Bool} (hx:x65=false):Ap (sa hb) (k:Nat) (r:Nat) (w:Nat) (2+r+w:Nat) x65 h R:=by
 have i2:=v.h2;have i4:=v.l2;have i6:=v.h1;have i7:=v.u2
 subst hx
 unfold Ap
 refine cj rfl ?_
 have c1:cell h ((ad hb).add 1)=some (vp (sa G.Lh.pb)):=(rp.c 1).trans rfl
 have c0:cell h (ad hb)=some (vi (s.cM:Nat)):=rp.c0
 have c6:cell h ((ad hb).add 6)=some (vi (s.dI:Nat)):=(rp.c 6).trans rfl
 obtain⟨wch,fch,fsh,ra⟩:=rp.dJ
 have hz:(s.dM sp).hz=s.dJ:=rfl
 have hu:=RS.oz v sp
 refine bw ⟨_,c1,_,ru ra ⟨rfl,rfl⟩,bw ⟨_,c6,bw ⟨_,c0,?_⟩⟩⟩
 rw [hz,d9 (x:=(2:Int)*(s.dJ:Int)) (by omega) (by omega),d9 (x:=(2:Int)*(s.dJ:Int)+(s.dI:Int)) (by omega) (by omega),d9 (x:=(2:Int)*(s.dJ:Int)+(s.dI:Int)+((2+r+w:Nat):Int)) (by omega) (by omega)]
 refine ca (fun hc=>?_) fun hc=>?_
 ·have hc:s.cM<2*s.dJ+s.dI+(2+r+w):=by omega
  obtain⟨q1,q2,q3,q4⟩:=PT v rp h1 h2 h3 h4 h5 hR hc
  refine bw ⟨_,c0,bw ⟨_,c6,by omega,bw ⟨_,c0,bw ⟨_,c6,?_⟩⟩⟩⟩
  refine ca (fun d1=>?_) fun d1=>ca (fun d2=>?_) fun d2=>bw ⟨_,c1,_,nC ra ⟨rfl,rfl⟩,?_⟩
  ·unfold uu;exact cr rfl (q1 d1)
  ·unfold uu;exact cr rfl (q2 d2)
  ·rw [hu]
   by_cases d3:wrap .i64 (Int.tdiv (wrap .i64 ((wrap .i64 ((s.cM:Int)-(s.dI:Int)))-((2+r+w:Nat):Int))) (2:Int))<(s.cZ:Int)
   ·rw [decide_eq_true d3]
    unfold uu;exact cr rfl (q3 d3)
   ·rw [decide_eq_false d3]
    obtain⟨n,e0,e1,e2,e3,e4⟩:=q4 d1 d2 d3
    unfold uu
    rw [e0]
    refine cj rfl (yQ v rp (by omega) (by omega) e3 fun h7 adC G7 sp7 rp7 x7=>⟨rfl,?_⟩)
    obtain⟨b1,b2,b3,b4,b5,b6,b7,b8,b9⟩:=s.uA n
    have v7:=v.eY (n:=n) e1 (by omega) e3
    rw [e4]at hR
    exact FU v7 rp7 h1 h2 h3 h4 h5 (by rw [b6,b3,b1];omega) fun h8 zq G8 rp8 x8=>hR h8 zq G8 sp7 rp8 (x7.trans x8)
 ·have hc:¬s.cM<2*s.dJ+s.dI+(2+r+w):=by omega
  have e:s.jN k r w=(s.gX k r w,qO+RS.ff s.cK,0):=by unfold RS.jN;rw [if_neg hc]
  rw [e]at hR
  exact FU v rp h1 h2 h3 h4 h5 (by omega) fun h8 zq G8 rp8 x8=>hR h8 zq G8 sp rp8 x8
theorem Ik(v:s.Inv)(rp:dP h hb bR (s.dM sp) G) {k r w:Nat} (h1:1≤k) (h2:k≤255) (h3:r≤1048576) (h4:w≤1048576) (h5:64<1+r+w) {R:RP}
  (hR:∀h' cR G' uK,dP h' hb cR ((s.collect.jN k r w).1.dM uK) G'→iV h bR h' cR→R (vt #[uv (s.collect.jN k r w).2.1,vi (s.collect.jN k r w).2.2]) h'):Ap (sa hb) (k:Nat) (r:Nat) (w:Nat) (2+r+w:Nat) true h R:=by
 unfold Ap
 refine cr rfl (te v rp fun ha adB Ga spa rpa xa=>⟨rfl,Jo v.ci rpa (k:=0) (by omega) fun hc QB Gc spc rpc xc=>⟨rfl,?_⟩⟩)
 have:=Ij (h:=hc) (hb:=hb) (bR:=QB) (s:=s.collect) (sp:=spc) (G:=Gc) v.collect rpc h1 h2 h3 h4 h5 (R:=R) (fun h' cR G' uK wR x'=>hR h' cR G' uK wR ((xa.trans xc).trans x')) (x65:=false) rfl
 unfold Ap at this
 exact this
theorem Zi(v:s.Inv)(rp:dP h hb bR (s.dM sp) G) {k r w:Nat} (h1:1≤k) (h2:k≤255) (h3:r≤1048576) (h4:w≤1048576) (h5:64<1+r+w) {R:RP}
  (hR:∀h' cR G' uK,dP h' hb cR ((s.block k r w).1.dM uK) G'→iV h bR h' cR→R (vt #[uv (s.block k r w).2.1,vi (s.block k r w).2.2]) h') :
  bq PG 140 #[vp (sa hb),vi (k:Nat),vi (r:Nat),vi (w:Nat),vi (1+r+w:Nat)] h R:=by
 have i2:=v.h2;have i4:=v.l2;have i6:=v.h1;have i7:=v.u2;have i8:=v.sn;have i9:=v.kp
 refine Ym ?_
 unfold aff
 have c1:cell h ((ad hb).add 1)=some (vp (sa G.Lh.pb)):=(rp.c 1).trans rfl
 have c0:cell h (ad hb)=some (vi (s.cM:Nat)):=rp.c0
 have c6:cell h ((ad hb).add 6)=some (vi (s.dI:Nat)):=(rp.c 6).trans rfl
 have c7:cell h ((ad hb).add 7)=some (vi (s.gU:Nat)):=(rp.c 7).trans rfl
 have c8:cell h ((ad hb).add 8)=some (vi (s.gK:Nat)):=(rp.c 8).trans rfl
 obtain⟨wch,fch,fsh,ra⟩:=rp.dJ
 have hz:(s.dM sp).hz=s.dJ:=rfl
 have eb:wrap .i64 (((1+r+w:Nat):Int)+(1:Int))=((2+r+w:Nat):Int):=by rw [d9 (by omega) (by omega)];omega
 rw [eb]
 unfold RS.block RS.jX at hR
 refine bw ⟨_,c0,ca (fun hc=>?_) fun hc=>?_⟩
 ·rw [if_pos (by omega)]at hR
  refine te v rp fun ha adB Ga spa rpa xa=>⟨rfl,Jo v.ci rpa (k:=0) (by omega) fun tG QB Gc spc rpc xc=>⟨rfl,?_⟩⟩
  have vc:=v.collect
  have hl:=s.Hb
  have q2:=vc.h2
  have e:s.collect.jN k r w=(s.collect,0,31):=by unfold RS.jN;rw [if_pos (by omega),if_pos (by omega)]
  rw [e]at hR
  exact hR tG QB Gc spc rpc (xa.trans xc)
 ·refine bw ⟨_,c1,_,ru ra ⟨rfl,rfl⟩,bw ⟨_,c6,bw ⟨_,c0,?_⟩⟩⟩
  rw [hz,d9 (x:=(2:Int)*(s.dJ:Int)) (by omega) (by omega),d9 (x:=(2:Int)*(s.dJ:Int)+(s.dI:Int)) (by omega) (by omega),d9 (x:=(2:Int)*(s.dJ:Int)+(s.dI:Int)+((2+r+w:Nat):Int)) (by omega) (by omega)]
  refine ca (fun hd=>?_) fun hd=>?_
  ·rw [if_pos (by omega)]at hR
   exact Ik v rp h1 h2 h3 h4 h5 hR
  ·refine bw ⟨_,c7,bw ⟨_,c1,_,ru ra ⟨rfl,rfl⟩,bw ⟨_,c8,?_⟩⟩⟩
   rw [hz,d9 (x:=(s.gU:Int)+((2+r+w:Nat):Int)) (by omega) (by omega),d9 (x:=(s.dJ:Int)+(s.gK:Int)) (by omega) (by omega)]
   by_cases he:(s.gU:Int)+((2+r+w:Nat):Int)>(s.dJ:Int)+(s.gK:Int)
   ·rw [decide_eq_true he]
    rw [if_pos (by omega)]at hR
    exact Ik v rp h1 h2 h3 h4 h5 hR
   ·rw [decide_eq_false he]
    rw [if_neg (by omega)]at hR
    exact Ij v rp h1 h2 h3 h4 h5 hR rfl
theorem Zk(v:s.Inv)(rp:dP h hb bR (s.dM sp) G) {k r w:Nat} (h1:1≤k) (h2:k≤255) (h3:r≤1048576) (h4:w≤1048576) {R:RP}
  (hR:∀h' cR G' uK,dP h' hb cR ((s.oA k r w).1.dM uK) G'→iV h bR h' cR→R (vt #[uv (s.oA k r w).2.1,vi (s.oA k r w).2.2]) h') :
  bE (sa hb) fun p69=>∃t71:OA,cell h (p69.add 1)=some (vp t71)∧bq PG 141 #[vp t71,vi (k:Nat),vi (r:Nat),vi (w:Nat)] h fun r h7=>∃adg:Int,∃adf:Int,r=vt #[vi adg,vi adf]∧bX (adf != (0:Int)) (R (vt #[vu 0,vi 31]:Value) h7) (R ((vt #[vu (wrap .u64 adg),vi 0]:Value)) h7):=by
 have i2:=v.h2;have i4:=v.l2;have i6:=v.h1;have i7:=v.u2
 have c1:cell h ((ad hb).add 1)=some (vp (sa G.Lh.pb)):=(rp.c 1).trans rfl
 obtain⟨wc,fc,fs,ra⟩:=rp.dJ
 have hu:=RS.oz v sp
 have hz:(s.dM sp).hz=s.dJ:=rfl
 have S7:pY (k:Nat) (r:Nat) (w:Nat):=⟨⟨by omega,by omega⟩,⟨by omega,by omega⟩,by omega,by omega⟩
 refine bw ⟨_,c1,Iq ra (fun fV=>absurd S7 fV) (fun _ hf=>?_) fun h' L' _ hg ha g=>?_⟩
 ·have e:s.oA k r w=(s,0,31):=by unfold RS.oA;rw [if_pos (by rw [hu,hz]at hf;omega)]
  rw [e]at hR
  exact⟨_,_,rfl,cr rfl (hR h bR G sp rp (iV.refl h bR))⟩
 ·rw [hu,hz]at hg
  have e:s.oA k r w=(s.js k r w,s.cZ,0):=by unfold RS.oA;rw [if_neg (by omega)]
  rw [e]at hR
  rw [bu,bu,bu]at ha
  have ng:=rp.Qx ha g
  refine⟨_,_,rfl,cj rfl ?_⟩
  rw [hu,eN (by omega) (by omega)]
  refine hR h' (nR bR h.size L'.fp .dJ) {G with Lh:=L'} sp ?_ (iV.of (bR:=bR) g.gK (fun b fV=>by rw [rp.nu b fV];nofun) fun b fV ho=>(gh fV).trans ho)
  rw [RS.F1 v]
  exact ng
theorem Tk(v:s.Inv)(rp:dP h hb bR (s.dM sp) G) {k r w:Int} {R:RP}
  (hR:∀h' cR G' uK,dP h' hb cR ((s.alloc k r w).1.dM uK) G'→iV h bR h' cR→R (vt #[uv (s.alloc k r w).2.1,vi (s.alloc k r w).2.2]) h'):bq PG 96 #[vp (sa hb),vi k,vi r,vi w] h R:=by
 have i2:=v.h2;have i4:=v.l2;have i6:=v.h1;have i7:=v.u2
 refine abG ?_
 unfold anD
 have yR:¬pY k r w→Bp (sa hb) k r w true h R:=fun hn=>by
  have e:s.alloc k r w=(s,0,34):=by unfold RS.alloc;rw [if_neg hn]
  rw [e]at hR
  unfold Bp
  exact cr rfl (hR h bR G sp rp (iV.refl h bR))
 have sh:∀ {x:Prop},¬x→(pY k r w→x)→¬pY k r w:=fun hn hx hs=>hn (hx hs)
 refine ca (fun c=>yR fun q=>by have:=q.1.1;omega) fun c1=>ca (fun c=>yR fun q=>by have:=q.1.2;omega) fun c2=>ca (fun c=>yR fun q=>by have:=q.2.1.1;omega) fun c3 =>
  ca (fun c=>yR fun q=>by have:=q.2.1.2;omega) fun c4=>ca (fun c=>yR fun q=>by have:=q.2.2.1;omega) fun c5=>?_
 by_cases c6:w>1048576
 ·rw [decide_eq_true c6];exact yR fun q=>by have:=q.2.2.2;omega
 rw [decide_eq_false c6]
 have S7:pY k r w:=⟨⟨by omega,by omega⟩,⟨by omega,by omega⟩,by omega,by omega⟩
 obtain⟨k,rfl⟩:=dp (show 0≤k by omega)
 obtain⟨r,rfl⟩:=dp (show 0≤r by omega)
 obtain⟨w,rfl⟩:=dp (show 0≤w by omega)
 unfold Bp
 have es:wrap .i64 ((wrap .i64 ((1:Int)+(r:Int)))+(w:Int))=((1+r+w:Nat):Int):=by
  rw [d9 (x:=(1:Int)+(r:Int)) (by omega) (by omega),d9 (by omega) (by omega)];omega
 rw [es]
 have ea:s.alloc (k:Int) (r:Int) (w:Int)=if 64<1+r+w then s.block k r w else(s.lO (1+r+w)).oA k r w:=by
  unfold RS.alloc
  rw [if_pos S7]
  rfl
 rw [ea]at hR
 refine cj rfl (ca (fun hl=>?_) fun hl=>?_)
 ·rw [if_pos (by omega)]at hR
  exact Zi v rp (by omega) (by omega) (by omega) (by omega) (by omega) fun h' cR G' uK wR x'=>⟨_,_,rfl,hR h' cR G' uK wR x'⟩
 ·rw [if_neg (by omega)]at hR
  have c1':cell h ((ad hb).add 1)=some (vp (sa G.Lh.pb)):=(rp.c 1).trans rfl
  obtain⟨wc,fc,fs,ra⟩:=rp.dJ
  have hu:=RS.oz v sp
  have hz:(s.dM sp).hz=s.dJ:=rfl
  refine bw ⟨_,c1',_,nC ra ⟨rfl,rfl⟩,bw ⟨_,c1',_,ru ra ⟨rfl,rfl⟩,?_⟩⟩
  rw [hu,hz,d9 (x:=(s.cZ:Int)+((1+r+w:Nat):Int)) (by omega) (by omega)]
  unfold RS.lO at hR
  refine ca (fun hc=>?_) fun hc=>?_
  ·rw [if_pos (by omega)]at hR
   refine te v rp fun ha adB Ga spa rpa xa=>⟨rfl,Jo v.ci rpa (by omega) fun tG QB Gc spc rpc xc=>⟨rfl,?_⟩⟩
   exact Zk v.ci.tH rpc (by omega) (by omega) (by omega) (by omega) fun h' cR G' uK wR x'=>hR h' cR G' uK wR ((xa.trans xc).trans x')
  ·rw [if_neg (by omega)]at hR
   exact Zk v rp (by omega) (by omega) (by omega) (by omega) fun h' cR G' uK wR x'=>hR h' cR G' uK wR x'
end
section
end
namespace RS
section
variable {s:RS}
theorem th(n:Nat):(s.eY n).eB.length=s.eB.length∧(s.eY n).bC=s.bC:=by unfold eY;split<;>exact⟨rfl,rfl⟩
theorem DL(n:Nat):(s.tH n).eB.length=s.eB.length∧(s.tH n).bC=s.bC:=by
 unfold tH
 split
 ·split
  ·exact th _
  ·exact⟨rfl,rfl⟩
 ·split
  ·exact th _
  ·exact⟨rfl,rfl⟩
theorem tf:s.ci.eB.length=s.eB.length∧s.ci.bC=s.bC:=by unfold ci;exact⟨by simp,rfl⟩
theorem yg:s.collect.eB.length=s.eB.length∧s.collect.bC=s.bC:=by
 unfold collect
 exact⟨(DL _).1.trans tf.1,(DL _).2.trans tf.2⟩
theorem NZ(n:Int):(s.lG n).1.eB.length=s.eB.length∧(s.lG n).1.bC=s.bC:=by
 unfold lG
 split
 ·exact⟨rfl,rfl⟩
 ·split
  ·exact tf
  ·exact⟨(th _).1.trans tf.1,(th _).2.trans tf.2⟩
theorem F2(k r w:Nat):(s.gX k r w).eB.length=s.eB.length+1∧(s.gX k r w).bC=s.bC:=⟨by unfold gX;simp,rfl⟩
theorem TN(k r w:Int):(s.alloc k r w).1.eB.length≤s.eB.length+1∧(s.alloc k r w).1.bC=s.bC:=by
 unfold alloc
 split
 ·split
  ·unfold block
   have h1:(s.jX (2+r.toNat+w.toNat)).eB.length=s.eB.length∧(s.jX (2+r.toNat+w.toNat)).bC=s.bC:=by
    unfold jX
    split
    ·exact yg
    ·exact⟨rfl,rfl⟩
   unfold jN
   generalize hg:s.jX (2+r.toNat+w.toNat)=g at h1
   obtain⟨g1,g2⟩:=h1
   split
   ·split
    ·exact⟨by show g.eB.length≤_;omega,g2⟩
    ·have:=F2 (s:=g.eY ((g.cM-g.dI-(2+r.toNat+w.toNat)) / 2)) k.toNat r.toNat w.toNat
     have h2:=th (s:=g) ((g.cM-g.dI-(2+r.toNat+w.toNat)) / 2)
     exact⟨by rw [this.1,h2.1];omega,this.2.trans (h2.2.trans g2)⟩
   ·have:=F2 (s:=g) k.toNat r.toNat w.toNat
    exact⟨by rw [this.1];omega,this.2.trans g2⟩
  ·have h1:(s.lO (1+r.toNat+w.toNat)).eB.length=s.eB.length∧(s.lO (1+r.toNat+w.toNat)).bC=s.bC:=by
    unfold lO
    split
    ·exact⟨(DL _).1.trans tf.1,(DL _).2.trans tf.2⟩
    ·exact⟨rfl,rfl⟩
   generalize s.lO (1+r.toNat+w.toNat)=g at h1
   unfold oA
   split
   ·exact⟨by show g.eB.length≤_;omega,h1.2⟩
   ·refine⟨?_,h1.2⟩
    unfold js
    simp
    omega
 ·exact⟨by show s.eB.length≤_;omega,rfl⟩
theorem wr(n:Nat):(s.eY n).cM=s.cM:=by unfold eY;split<;>rfl
theorem Ri(n:Nat):(s.tH n).cM=s.cM:=by
 unfold tH
 split
 ·split
  ·exact wr _
  ·rfl
 ·split
  ·exact wr _
  ·rfl
theorem C7:s.collect.cM=s.cM:=Ri (s:=s.ci) 0
theorem NY(n:Int):(s.lG n).1.cM=s.cM:=by
 unfold lG
 split
 ·rfl
 ·split
  ·rfl
  ·exact wr (s:=s.ci) _
theorem U3(r:Nat)(i:Int)(x:Nat):(s.iI r i x).1.cM=s.cM:=by
 unfold iI
 split
 ·rfl
 ·split
  ·rfl
  ·split
   ·split<;>rfl
   ·rfl
theorem GC(r:Nat)(f:Int)(cs:LN):(s.jS r f cs).1.cM=s.cM:=by unfold jS;split<;>rfl
theorem Ip(k r w:Int):(s.alloc k r w).1.cM=s.cM:=by
 unfold alloc
 split
 ·split
  ·unfold block
   have h1:(s.jX (2+r.toNat+w.toNat)).cM=s.cM:=by
    unfold jX
    split
    ·exact C7
    ·rfl
   generalize s.jX (2+r.toNat+w.toNat)=g at h1
   unfold jN
   split
   ·split
    ·exact h1
    ·exact(wr (s:=g) _).trans h1
   ·exact h1
  ·have h1:(s.lO (1+r.toNat+w.toNat)).cM=s.cM:=by
    unfold lO
    split
    ·exact Ri (s:=s.ci) _
    ·rfl
   generalize s.lO (1+r.toNat+w.toNat)=g at h1
   unfold oA
   split
   ·exact h1
   ·exact h1
 ·rfl
end
end RS
structure di where
 kind:Nat
 cY:LN
 cN:LN
namespace RS
structure vH (s:RS) (nd:List di):Prop where
 len:nd.length=s.eB.length
 iL:∀id,s.da id→nd[id]?=some ⟨(s.dS id).kind,(s.dS id).cY,(s.dS id).cN⟩
structure Sub (t s:RS):Prop where
 len:t.eB.length=s.eB.length
 bC:t.bC=s.bC
 iL:∀id,t.da id→s.da id∧(t.dS id).kind=(s.dS id).kind∧(t.dS id).cY=(s.dS id).cY∧(t.dS id).cN=(s.dS id).cN
section
variable {s t u:RS} {nd:List di}
theorem Sub.refl(s:RS):Sub s s:=⟨rfl,rfl,fun _ h=>⟨h,rfl,rfl,rfl⟩⟩
theorem Sub.trans(a:Sub u t)(b:Sub t s):Sub u s :=
 ⟨a.len.trans b.len,a.bC.trans b.bC,fun id h=>by
  obtain⟨h1,h2,h3,h4⟩:=a.iL id h
  obtain⟨k1,k2,k3,k4⟩:=b.iL id h1
  exact⟨k1,h2.trans k2,h3.trans k3,h4.trans k4⟩⟩
theorem Sub.of(e1:t.eB=s.eB)(e2:t.dG=s.dG)(e3:t.cK=s.cK)(e4:t.bC=s.bC):Sub t s:=by
 have eo:∀id,t.dS id=s.dS id:=fun id=>by unfold dS;rw [e1]
 exact⟨by rw [e1],e4,fun id h=>⟨by unfold da at h ⊢;rw [←e2,←e3];exact h,by rw [eo],by rw [eo],by rw [eo]⟩⟩
theorem vH.sub(h:vH s nd)(k:Sub t s):vH t nd:=⟨h.len.trans k.len.symm,fun id iA=>by
 obtain⟨h1,h2,h3,h4⟩:=k.iL id iA
 rw [h2,h3,h4]
 exact h.iL id h1⟩
theorem Sub.ci(v:s.Inv):Sub s.ci s:=⟨px s,rfl,fun id h=>by
 have h1:=(mG v).1 h
 obtain⟨k1,k2,k3,_⟩:=mF v h1
 exact⟨(hU.at v _).da h1,k1,k2,k3⟩⟩
theorem Sub.eY(n:Nat):Sub (s.eY n) s:=by
 unfold RS.eY
 split
 ·exact Sub.refl s
 ·exact Sub.of rfl rfl rfl rfl
theorem Sub.tH(n:Nat):Sub (s.tH n) s:=by
 unfold RS.tH
 split
 ·split
  ·exact Sub.eY _
  ·exact Sub.refl s
 ·split
  ·exact Sub.eY _
  ·exact Sub.refl s
theorem Sub.collect(v:s.Inv):Sub s.collect s:=(Sub.tH 0).trans (Sub.ci v)
theorem Sub.lG(v:s.Inv)(n:Int):Sub (s.lG n).1 s:=by
 unfold RS.lG
 split
 ·exact Sub.refl s
 ·split
  ·exact Sub.ci v
  ·exact(Sub.eY _).trans (Sub.ci v)
structure ZV (t s:RS) (k r w fk:Nat):Prop where
 eB:∃b pl,t.eB=s.eB++[CX k r w b pl]
 bC:t.bC=s.bC
 da:∀id,t.da id↔id=s.eB.length∨s.da id
 fk:t.fk s.eB.length=fk
theorem ZV.dG(v:s.Inv)(k r w:Nat):ZV (s.js k r w) s k r w s.cZ:=by
 have h1:=v.ob
 refine⟨⟨_,_,rfl⟩,rfl,fun id=>?_,?_⟩
 ·show (id∈s.dG++[s.eB.length]∨(id≠0∧id∈s.cK))↔_
  rw [bI,bM]
  exact⟨fun h=>h.elim (fun h=>h.elim (fun h=>.inr (.inl h)) .inl) fun h=>.inr (.inr h),fun h=>h.elim (fun h=>.inl (.inr h)) fun h=>h.elim (fun h=>.inl (.inl h)) .inr⟩
 ·have eo:(s.js k r w).dS s.eB.length=CX k r w false s.cZ:=by unfold dS js;simp
  unfold RS.fk
  rw [if_neg (by omega),eo]
  rfl
theorem ZV.Au(v:s.Inv)(k r w:Nat):ZV (s.gX k r w) s k r w (qO+ff s.cK):=by
 have h1:=v.ob
 obtain⟨f1,f2,f3⟩:=pv s.cK
 refine⟨⟨_,_,rfl⟩,rfl,fun id=>?_,?_⟩
 ·show (id∈s.dG∨(id≠0∧id∈(s.gX k r w).cK))↔_
  have e:(id≠0∧id∈(s.gX k r w).cK)↔id=s.eB.length∨(id≠0∧id∈s.cK):=by
   constructor
   ·rintro⟨h0,h⟩
    obtain⟨i,hi⟩:=bT.1 h
    rw [oW]at hi
    split at hi
    ·exact .inl (bt hi).symm
    ·exact .inr ⟨h0,bx hi⟩
   ·rintro(h|⟨h0,h⟩)
    ·refine⟨by omega,?_⟩
     exact bx (i:=ff s.cK) (by rw [oW,if_pos rfl,h])
    ·refine⟨h0,?_⟩
     obtain⟨i,hi⟩:=bT.1 h
     have iZ:=(bp.1 hi).1
     refine bx (i:=i) ?_
     rw [oW,if_neg,hi]
     intro e
     subst e
     rw [f2 iZ]at hi
     exact h0 (bt hi).symm
  rw [e]
  exact⟨fun h=>h.elim (fun h=>.inr (.inl h)) fun h=>h.elim .inl fun h=>.inr (.inr h),fun h=>h.elim (fun h=>.inr (.inl h)) fun h=>h.elim .inl fun h=>.inr (.inr h)⟩
 ·have eo:(s.gX k r w).dS s.eB.length=CX k r w true (ff s.cK):=by unfold dS gX;simp
  unfold RS.fk
  rw [if_neg (by omega),eo]
  rfl
theorem ZV.shd {k r w fk:Nat}(n:ZV t s k r w fk)(v:s.Inv)(h:vH s nd):vH t (nd++[⟨k,List.replicate r 0,List.replicate w 0⟩]):=by
 obtain⟨⟨b,pl,e⟩,_,hh,_⟩:=n
 refine⟨by rw [bG,h.len,e,bG];rfl,fun id iA=>?_⟩
 by_cases hn:id=s.eB.length
 ·subst hn
  have eo:t.dS s.eB.length=CX k r w b pl:=by unfold dS;rw [e];simp
  rw [eo,bN (by rw [h.len];exact bH _),h.len,dD]
  rfl
 ·have h1:=((hh id).1 iA).resolve_left hn
  have fE:=v.kz h1
  have eo:t.dS id=s.dS id:=by unfold dS;rw [e,bB,bL fE,←bB]
  rw [eo,bL (by rw [h.len];exact fE)]
  exact h.iL id h1
theorem yq(v:s.Inv)(k r w:Int):(¬pY k r w∧s.alloc k r w=(s,0,34)) ∨
  (pY k r w∧∃t,Sub t s∧t.Inv∧(s.alloc k r w=(t,0,31)∨∃t' fk,s.alloc k r w=(t',fk,0)∧ZV t' t k.toNat r.toNat w.toNat fk)):=by
 unfold alloc
 split
 ·rename_i hs
  refine .inr ⟨hs,?_⟩
  split
  ·unfold block
   have v1:=v.jX (2+r.toNat+w.toNat)
   have s1:Sub (s.jX (2+r.toNat+w.toNat)) s:=by
    unfold jX
    split
    ·exact Sub.collect v
    ·exact Sub.refl s
   generalize s.jX (2+r.toNat+w.toNat)=g at v1 s1
   unfold jN
   split
   ·split
    ·exact⟨g,s1,v1,.inl rfl⟩
    ·rename_i hn
     simp only [not_or,Nat.not_lt]at hn
     obtain⟨n1,n2,n3⟩:=hn
     have v2:(g.eY ((g.cM-g.dI-(2+r.toNat+w.toNat)) / 2)).Inv:=v1.eY n2 (by omega) n3
     refine⟨_,(Sub.eY _).trans s1,v2,.inr ⟨_,_,rfl,?_⟩⟩
     have:=ZV.Au v2 k.toNat r.toNat w.toNat
     have es:(g.eY ((g.cM-g.dI-(2+r.toNat+w.toNat)) / 2)).cK=g.cK:=by unfold eY;split<;>rfl
     rw [es]at this
     exact this
   ·exact⟨g,s1,v1,.inr ⟨_,_,rfl,ZV.Au v1 _ _ _⟩⟩
  ·have v1:=v.lO (1+r.toNat+w.toNat)
   have s1:Sub (s.lO (1+r.toNat+w.toNat)) s:=by
    unfold lO
    split
    ·exact(Sub.tH _).trans (Sub.ci v)
    ·exact Sub.refl s
   generalize s.lO (1+r.toNat+w.toNat)=g at v1 s1
   unfold oA
   split
   ·exact⟨g,s1,v1,.inl rfl⟩
   ·exact⟨g,s1,v1,.inr ⟨_,_,rfl,ZV.dG v1 _ _ _⟩⟩
 ·exact .inl ⟨by assumption,rfl⟩
theorem vH.setObj(v:s.Inv)(h:vH s nd){id:Nat}(iA:s.da id){o:nW}(hk:o.kind=(s.dS id).kind):vH (s.setObj id o) (nd.set id ⟨o.kind,o.cY,o.cN⟩):=by
 have fE:=v.kz iA
 refine⟨by rw [cd,h.len];unfold RS.setObj;simp,fun x hx=>?_⟩
 have hx:s.da x:=hx
 by_cases e:x=id
 ·subst e
  have eo:(s.setObj x o).dS x=o:=by unfold dS RS.setObj;simp [fE]
  rw [eo,cE (by rw [h.len];exact fE)]
 ·have eo:(s.setObj id o).dS x=s.dS x:=by unfold dS RS.setObj;rw [bB,dl (Ne.symm e),←bB]
  rw [eo,dl (Ne.symm e)]
  exact h.iL x hx
theorem vH.bC(h:vH s nd)(l:List (Option Nat)):vH (s.jw l) nd:=⟨h.len,h.iL⟩
end
end RS
namespace RS
section
variable {s:RS}
theorem U2(v:s.Inv){id t k:Nat}(hh:s.da id)(h0:id≠0)(ht:t=0∨s.da t)(hk:k<(s.dS id).cY.length):s.iI (s.fk id) (k:Int) (s.fk t)=(s.setObj id {s.dS id with cY:=(s.dS id).cY.set k t},0):=by
 have e:=jy v (id:=id) (.inr hh)
 have e2:=jy v ht
 unfold iI
 rw [e,e2,if_neg h0,if_neg (by omega),if_pos (by omega),if_neg,bu]
 rintro⟨h1,h2⟩
 subst h2
 exact h1 rfl
theorem AX(v:s.Inv){id k x:Nat}(hh:s.da id)(h0:id≠0)(hk:k<(s.dS id).cN.length):s.iI (s.fk id) (((s.dS id).cY.length+k:Nat):Int) x=(s.setObj id {s.dS id with cN:=(s.dS id).cN.set k x},0):=by
 have e:=jy v (id:=id) (.inr hh)
 unfold iI
 rw [e,if_neg h0,if_neg (by omega),if_neg (by omega),bu,fm]
theorem WP(v:s.Inv){id k r:Nat}(hh:s.da id)(h0:id≠0)(hk:(s.dS id).cY[k]?=some r):s.Cd (s.fk id) (k:Int)=(s.fk r,0):=by
 have zb:=(bp.1 hk).1
 have e:=jy v (id:=id) (.inr hh)
 unfold Cd
 rw [e,if_neg h0,if_pos ⟨by omega,by rw [we];omega⟩,bu]
 have:(s.enc id).fA.getD k 0=s.fk r:=by
  rw [bB]
  unfold dg.fA enc
  rw [bL (by rw [bA];exact zb),bD,hk]
  rfl
 rw [this]
theorem LZ(v:s.Inv){id k r:Nat}(hh:s.da id)(h0:id≠0)(hk:(s.dS id).cN[k]?=some r):s.Cd (s.fk id) (((s.dS id).cY.length+k:Nat):Int)=(r,0):=by
 have zb:=(bp.1 hk).1
 have e:=jy v (id:=id) (.inr hh)
 unfold Cd
 rw [e,if_neg h0,if_pos ⟨by omega,by rw [we];omega⟩,bu]
 have:(s.enc id).fA.getD ((s.dS id).cY.length+k) 0=r:=by
  rw [bB]
  unfold dg.fA enc
  rw [bN (by rw [bA];omega),bA,fm,hk]
  rfl
 rw [this]
theorem WO(v:s.Inv){r:Nat}(hr:r=0∨s.da r):s.pW (s.fk r)=true:=by
 unfold pW
 rw [jy v hr]
 by_cases h:r=0
 ·subst h;rfl
 ·exact decide_eq_true (.inr h)
def alR(s:RS)(l:LN):Nat:=(l.map fun id=>s.size id+1).sum
end
end RS
namespace RS
section
variable {s:RS}
theorem WY(v:s.Inv){n:Nat}(h:2*(s.cZ+n)≤s.cM-s.dI):s.cZ+n≤(s.tH n).dJ:=by
 obtain⟨w1,w2,w3⟩:=zL (s.cZ+n)
 have hb:∀m,(s.eY m).dJ=m:=fun m=>by unfold eY;split<;>first | (rename_i e;exact e.symm)|rfl
 have i1:=v.h2
 unfold tH
 split
 ·split
  ·rw [hb];omega
  ·omega
 ·split
  ·rw [hb];omega
  ·omega
theorem L7(n:Nat):(s.tH n).cZ=s.cZ∧(s.tH n).dI=s.dI∧(s.tH n).cM=s.cM:=by
 have hb:∀m,(s.eY m).cZ=s.cZ∧(s.eY m).dI=s.dI∧(s.eY m).cM=s.cM:=fun m=>by unfold eY;split<;>exact⟨rfl,rfl,rfl⟩
 unfold tH
 split
 ·split
  ·exact hb _
  ·exact⟨rfl,rfl,rfl⟩
 ·split
  ·exact hb _
  ·exact⟨rfl,rfl,rfl⟩
def zf(s:RS)(r w:Nat):Prop :=
 if 1+r+w≤64 then 2*(s.ci.cZ+(1+r+w))≤s.cM-s.ci.dI∧s.ci.dI≤s.cM
 else s.ci.dI+(1+r+w)+1+2*max s.ci.cZ 64≤s.cM
theorem FY(v:s.Inv){k r w:Int}(hs:pY k r w):(s.alloc k r w).2.2=0↔s.zf r.toNat w.toNat:=by
 have c1:=wN v
 have c2:=qw v
 have vc:=v.ci
 have i1:=v.h1;have i2:=v.h2;have i3:=v.u2
 have j2:=vc.h2;have j3:=vc.u2;have j1:=vc.h1
 have el:s.ci.cM=s.cM:=rfl
 unfold alloc zf
 rw [if_pos hs]
 by_cases hn:64<1+r.toNat+w.toNat
 ·rw [if_pos hn,if_neg (by omega)]
  unfold block
  generalize hg:s.jX (2+r.toNat+w.toNat)=g
  have hv:g.Inv:=hg▸v.jX _
  have hl:g.cM=s.cM∧((g=s∧¬(s.cM<2*s.dJ+s.dI+(2+r.toNat+w.toNat)))∨(g.cZ=s.ci.cZ∧g.dI=s.ci.dI)):=by
   rw [←hg]
   unfold jX
   split
   ·obtain⟨f1,f2,f3⟩:=L7 (s:=s.ci) 0
    exact⟨f3,.inr ⟨f1,f2⟩⟩
   ·rename_i hc
    exact⟨rfl,.inl ⟨rfl,fun h=>hc (.inl h)⟩⟩
  have g1:=hv.h1;have g2:=hv.h2;have g3:=hv.u2
  unfold jN
  obtain⟨hl1,HX⟩:=hl
  rcases HX with⟨e,hc⟩|⟨e1,e2⟩
  ·subst e
   rw [if_neg hc]
   exact⟨fun _=>by omega,fun _=>rfl⟩
  ·split
   ·split
    ·exact⟨fun h=>by exact absurd h (by show ¬((31:Int)=0);omega),fun h=>by omega⟩
    ·exact⟨fun _=>by omega,fun _=>rfl⟩
   ·exact⟨fun _=>by omega,fun _=>rfl⟩
 ·rw [if_neg hn,if_pos (by omega)]
  unfold lO
  split
  ·obtain⟨f1,f2,f3⟩:=L7 (s:=s.ci) (1+r.toNat+w.toNat)
   have vf:=vc.tH (k:=1+r.toNat+w.toNat)
   have q2:=vf.h2
   have room:=WY vc (n:=1+r.toNat+w.toNat)
   unfold oA
   split
   ·exact⟨fun h=>by exact absurd h (by show ¬((31:Int)=0);omega),fun h=>by omega⟩
   ·exact⟨fun _=>by omega,fun _=>rfl⟩
  ·unfold oA
   rw [if_neg (by omega)]
   exact⟨fun _=>by omega,fun _=>rfl⟩
end
end RS
namespace RS
theorem Ek {f:Nat→Nat}:∀(m l:LN),l.Nodup→(∀x∈l,x∈m)→(∀x∈l,m.count x=1)→(m.map fun x=>if x∈l then f x else 0).sum=(l.map f).sum:=by
 intro m
 induction m with
 |nil =>
  intro l _ h _
  cases l with
  |nil=>rfl
  |cons y l=>exact absurd (h y (bQ ..)) (by simp)
 |cons y m ih =>
  intro l nd h hc
  by_cases hy:y∈l
  ·have gm:=nd.erase y
   have h':∀x∈l.erase y,x∈m:=fun x hx=>by
    have iS:x≠y:=fun e=>(List.Nodup.not_mem_erase nd) (e▸hx)
    exact(ck.1 (h x (List.mem_of_mem_erase hx))).resolve_left iS
   have tG:∀x∈l.erase y,m.count x=1:=fun x hx=>by
    have iS:x≠y:=fun e=>(List.Nodup.not_mem_erase nd) (e▸hx)
    have:=hc x (List.mem_of_mem_erase hx)
    rwa [p7 (Ne.symm iS)]at this
   have e:=ih (l.erase y) gm h' tG
   have hym:y∉m:=fun hm=>by
    have h1:=hc y hy
    rw [List.count_cons_self]at h1
    have:=List.count_pos_iff.2 hm
    omega
   have e2:(m.map fun x=>if x∈l then f x else 0)=(m.map fun x=>if x∈l.erase y then f x else 0):=cD fun x hx=>by
    have iS:x≠y:=fun e=>hym (e▸hx)
    have q:=List.mem_erase_of_ne (l:=l) iS
    by_cases hl:x∈l
    ·rw [if_pos hl,if_pos (q.2 hl)]
    ·rw [if_neg hl,if_neg fun h=>hl (q.1 h)]
   rw [cU,f8,if_pos hy,e2,e]
   have p:=(List.perm_cons_erase hy).map f
   rw [p.sum_nat]
   simp
  ·rw [cU,f8,if_neg hy,fo]
   refine ih l nd (fun x hx=>(ck.1 (h x hx)).resolve_left fun e=>hy (e▸hx)) fun x hx=>?_
   have iS:x≠y:=fun e=>hy (e▸hx)
   have:=hc x hx
   rwa [p7 (Ne.symm iS)]at this
theorem TA:∀(l:LN) (x:Nat),(∀i j:Nat,l[i]?=some x→l[j]?=some x→i=j)→x∈l→l.count x=1:=by
 intro l
 induction l with
 |nil=>intro x _ h;simp at h
 |cons y l ih =>
  intro x hu hm
  by_cases e:y=x
  ·subst e
   rw [List.count_cons_self]
   have:y∉l:=fun h=>by
    obtain⟨i,hi⟩:=bT.1 h
    have:=hu 0 (i+1) rfl (by simpa using hi)
    omega
   rw [List.count_eq_zero.2 this]
  ·rw [p7 e]
   refine ih x (fun i j hi hj=>?_) ((ck.1 hm).resolve_left fun h=>e h.symm)
   have:=hu (i+1) (j+1) (by simpa using hi) (by simpa using hj)
   omega
theorem Dr {s:RS}(v:s.Inv):s.ci.dI=s.alR s.eC.eI:=by
 have k:=hU.at v s.eB.length
 show (s.cK.map fun id=>if id∈s.eC.eI then s.size id+1 else 0).sum=_
 unfold alR
 refine Ek (f:=fun id=>s.size id+1) s.cK s.eC.eI (cu.1 k.nd).2.1 (fun x hx=>(k.ln x hx).2) fun x hx=>?_
 obtain⟨h0,hm⟩:=k.ln x hx
 exact TA _ _ (fun i j hi hj=>(v.sl i x hi h0).2.2.2.symm.trans (v.sl j x hj h0).2.2.2) hm
end RS
theorem Aq(cN:LN)(j i:Nat):(kZ cN j).testBit i=(decide (i<8)&&(cN.getD (j / 8) 0).testBit (j%8*8+i)):=by
 unfold kZ
 rw [show (256:Nat)=2 ^ 8 from rfl,Nat.testBit_mod_two_pow,Nat.testBit_div_two_pow,sC i]
theorem PQ {cN:LN}{j c:Nat}(hj:j / 8<cN.length)(hc:c<256)(k:Nat):kZ (lK cN j c) k=if k=j then c else kZ cN k:=by
 have GZ:∀i,8≤i→c.testBit i=false:=nf (k:=8) hc
 apply nH
 intro i
 rw [Aq]
 unfold lK
 rw [bB]
 by_cases hw:k / 8=j / 8
 ·rw [hw,cE hj]
  show (decide (i<8)&&(EQ (cN.getD (j / 8) 0) (j%8*8) c).testBit (k%8*8+i))=_
  rw [EP hc]
  by_cases hk:k=j
  ·subst hk
   rw [if_pos rfl,if_neg (by omega)]
   by_cases hi:i<8
   ·rw [if_pos (by omega),show k%8*8+i-k%8*8=i by omega];simp [hi]
   ·rw [GZ i (by omega)];simp [hi]
  ·rw [if_neg hk,Aq,hw]
   by_cases hi:i<8
   ·by_cases fE:k%8<j%8
    ·rw [if_pos (by omega)]
    ·rw [if_neg (by omega),if_neg (by omega)]
   ·simp [hi]
 ·have hk:k≠j:=fun e=>hw (by rw [e])
  rw [if_neg hk,dl (Ne.symm hw),Aq,bB]
theorem IS {cN:LN}{j c:Nat}(hj:8≤j):(lK cN j c).getD 0 0=cN.getD 0 0:=by
 unfold lK
 rw [bB,dl (by omega),←bB]
theorem zv:∀(l:LN) {cN:LN} {j:Nat},8≤j→(fO cN j l).getD 0 0=cN.getD 0 0
 | [],_,_,_=>rfl
 |c::l,cN,j,h=>by
  show (fO (lK cN j c) (j+1) l).getD 0 0=_
  rw [zv l (by omega),IS h]
theorem CQ:∀(l:LN) {cN:LN} {p:Nat},p+l.length≤8*cN.length→(∀c∈l,c<256)→∀k,kZ (fO cN p l) k=if p≤k∧k<p+l.length then l.getD (k-p) 0 else kZ cN k
 | [],cN,p,_,_,k=>by
  rw [if_neg (by rw [List.length_nil];omega)];rfl
 |c::l,cN,p,h,hc,k=>by
  rw [dF]at h ⊢
  show kZ (fO (lK cN p c) (p+1) l) k=_
  rw [CQ l (by rw [CR];omega) (fun x hx=>hc x (bJ _ hx)),PQ (by omega) (hc c (bQ ..))]
  by_cases hk:k=p
  ·subst hk
   rw [if_neg (by omega),if_pos rfl,if_pos (by omega),dD]
   rfl
  ·by_cases h1:p+1≤k∧k<p+1+l.length
   ·rw [if_pos h1,if_pos (by omega),show k-p=(k-(p+1))+1 by omega,rW]
   ·rw [if_neg h1,if_neg hk,if_neg (by omega)]
def dH(n:Nat):Nat:=(n+7) / 8
def fK(b:LN):Prop:=∀c∈b,c<256
structure ZC (cN b:LN):Prop where
 len:cN.length=1+dH b.length
 h0:cN.getD 0 0=b.length
 iL:∀j,j<8*dH b.length→kZ cN (8+j)=b.getD j 0
 lt:∀x∈cN,x<18446744073709551616
theorem H3 {b:LN}(h:fK b)(j:Nat):b.getD j 0<256:=by
 rw [bB]
 cases e:b[j]? with
 |none=>exact(by omega:(0:Nat)<256)
 |some x=>exact h x (bx e)
def j8(b:LN):LN:=fO (b.length::List.replicate (dH b.length) 0) 8 b
theorem M6(n m j:Nat):kZ (n::List.replicate m 0) (8+j)=0:=by
 unfold kZ
 rw [show (8+j) / 8=j / 8+1 by omega,rW]
 have:(List.replicate m 0).getD (j / 8) 0=0:=by
  rw [bB,jU]
  split<;>rfl
 rw [this,Nat.zero_div]
theorem M8 {b:LN}(h8:fK b)(hl:b.length<18446744073709551616):ZC (j8 b) b:=by
 have o0:(b.length::List.replicate (dH b.length) 0).length=1+dH b.length:=by simp;omega
 have hw:b.length≤8*dH b.length:=by unfold dH;omega
 refine⟨by unfold j8;rw [ly,o0],by unfold j8;rw [zv _ (bH _)];rfl,fun j hj=>?_,?_⟩
 ·unfold j8
  rw [CQ _ (by rw [o0];omega) h8]
  split
  ·rw [show 8+j-8=j by omega]
  ·rename_i hc
   rw [M6,bB,bV (by omega)];rfl
 ·refine tX (fun x hx=>?_) h8
  rcases ck.1 hx with e|e
  ·rw [e];exact hl
  ·rw [(gE.1 e).2];omega
def oV(b:LN):di:=⟨1,[],j8 b⟩
structure Ko (b:LN):Prop where
 b8:fK b
 len:b.length≤4096
theorem Ko.is {b:LN}(h:Ko b):ZC (j8 b) b:=M8 h.b8 (by have:=h.len;omega)
namespace RS
section
variable {s t:RS} {nd:List di} {b:LN} {id:Nat}
def y9(s:RS)(b:LN):RS × Nat × Int :=
 if(s.alloc 1 0 ((1+dH b.length:Nat):Int)).2.2=0 then
  ((((s.alloc 1 0 ((1+dH b.length:Nat):Int)).1.iI (s.alloc 1 0 ((1+dH b.length:Nat):Int)).2.1 0 b.length).1.jS (s.alloc 1 0 ((1+dH b.length:Nat):Int)).2.1 8 b).1,
   (s.alloc 1 0 ((1+dH b.length:Nat):Int)).2.1,0)
 else((s.alloc 1 0 ((1+dH b.length:Nat):Int)).1,0,(s.alloc 1 0 ((1+dH b.length:Nat):Int)).2.2)
structure P2 (s:RS) (id:Nat) (b:LN):Prop where
 da:s.da id
 nz:id≠0
 kind:(s.dS id).kind=1
 cY:(s.dS id).cY=[]
 cN:(s.dS id).cN=j8 b
theorem P2.of(v:s.Inv)(sh:s.vH nd)(hh:s.da id)(hn:nd[id]?=some (oV b)):P2 s id b:=by
 have h0:id≠0:=by
  rcases hh with h|h
  ·have:=(v.sm id h).1;omega
  ·exact h.1
 have e:=sh.iL id hh
 rw [hn]at e
 have e:=bt e
 unfold oV at e
 injection e with e1 e2 e3
 exact⟨hh,h0,e1.symm,e2.symm,e3.symm⟩
theorem EM(x:P2 s id b)(ok:Ko b):(s.dS id).cN.length=1+dH b.length:=by rw [x.cN];exact ok.is.len
def uq(s:RS)(id:Nat)(cN:LN):RS:=s.setObj id {s.dS id with cN:=cN}
theorem En {cN:LN}(hl:cN.length=(s.dS id).cN.length):ma (s.dS id) {s.dS id with cN:=cN}:=⟨rfl,rfl,hl,rfl,rfl⟩
theorem Inv.uq(v:s.Inv)(hh:s.da id){cN:LN}(hl:cN.length=(s.dS id).cN.length) (hw:∀x∈cN,x<18446744073709551616):(s.uq id cN).Inv :=
 v.setObj hh (En hl) (fun r hr=>v.rf id hh r hr) hw
theorem Lt(v:s.Inv)(hh:s.da id){cN:LN}(hl:cN.length=(s.dS id).cN.length) (x:Nat):(s.uq id cN).fk x=s.fk x:=vM (v.kz hh) (En hl) x
theorem Lu(v:s.Inv)(hh:s.da id)(cN:LN):(s.uq id cN).dS id={s.dS id with cN:=cN}:=by
 unfold RS.uq
 rw [vN _ _ (v.kz hh),if_pos rfl]
theorem S3(v:s.Inv)(hh:s.da id)(r1 r2:LN):(s.uq id r1).uq id r2=s.uq id r2:=by
 show (s.uq id r1).setObj id {(s.uq id r1).dS id with cN:=r2}=s.setObj id _
 rw [Lu v hh]
 unfold RS.uq RS.setObj
 simp
theorem S1(v:s.Inv)(sh:s.vH nd)(ok:Ko b):∃t,Sub t s∧t.Inv∧(s.y9 b=(t,0,31) ∨
  ∃s',s.y9 b=(s',s'.fk nd.length,0)∧s'.Inv∧s'.vH (nd++[oV b])∧s'.bC=s.bC∧(∀id,s'.da id↔id=nd.length∨t.da id)):=by
 have hw:dH b.length≤513:=by have:=ok.len;unfold dH;omega
 have S6:pY 1 0 ((1+dH b.length:Nat):Int):=⟨⟨by omega,by omega⟩,⟨by omega,by omega⟩,by omega,by omega⟩
 rcases yq v 1 0 ((1+dH b.length:Nat):Int)with⟨h,_⟩|⟨_,t,st,vtx,h⟩
 ·exact absurd S6 h
 refine⟨t,st,vtx,?_⟩
 rcases h with e|⟨t',fk,e,n⟩
 ·refine .inl ?_
  unfold y9
  rw [e,if_neg (by show ¬((31:Int)=0);omega)]
 ·refine .inr ?_
  have v':t'.Inv:=by have:=v.alloc 1 0 ((1+dH b.length:Nat):Int);rw [e]at this;exact this
  have e0:(0:Int).toNat=0:=rfl
  have e1:(1:Int).toNat=1:=rfl
  rw [e0,e1,bu]at n
  have ln:nd.length=t.eB.length:=sh.len.trans st.len.symm
  have sht:=sh.sub st
  have UZ:=n.shd vtx sht
  have hh:t'.da nd.length:=(n.da _).2 (.inl ln)
  have as9:t'.fk nd.length=fk:=by rw [ln];exact n.fk
  have h0:nd.length≠0:=by have:=vtx.ob;omega
  have eat:=UZ.iL nd.length hh
  rw [bN (bH _),dD]at eat
  have eat:(⟨1,List.replicate 0 0,List.replicate (1+dH b.length) 0⟩:di)=_:=bt eat
  injection eat with k1 k2 k3
  have hl:(t'.dS nd.length).cN.length=1+dH b.length:=by rw [←k3,fq]
  have s1:=AX v' (x:=b.length) (k:=0) hh h0 (by omega)
  rw [←k2]at s1
  have s1:t'.iI (t'.fk nd.length) 0 b.length=(t'.uq nd.length ((t'.dS nd.length).cN.set 0 b.length),0):=s1
  have hl1:((t'.dS nd.length).cN.set 0 b.length).length=(t'.dS nd.length).cN.length:=by rw [cd]
  have hw1:∀y∈(t'.dS nd.length).cN.set 0 b.length,y<18446744073709551616:=fun y hy=>by
   rcases dB hy with q|q
   ·rw [←k3]at q
    rw [(gE.1 q).2];omega
   ·have:=ok.len;omega
  have v1:=v'.uq hh hl1 hw1
  have ZO:(t'.uq nd.length ((t'.dS nd.length).cN.set 0 b.length)).da nd.length:=hh
  have iA:(t'.uq nd.length ((t'.dS nd.length).cN.set 0 b.length)).ident (t'.fk nd.length)=nd.length:=by
   rw [←Lt v' hh hl1 nd.length]
   exact jy v1 (.inr ZO)
  have eo:=Lu v' hh ((t'.dS nd.length).cN.set 0 b.length)
  have as4:(t'.uq nd.length ((t'.dS nd.length).cN.set 0 b.length)).o8 (t'.fk nd.length) 8 (b.length:Nat):=by
   unfold o8
   rw [iA,eo]
   refine⟨h0,by omega,by omega,?_⟩
   show (8:Int)+(b.length:Int)≤8*((((t'.dS nd.length).cN.set 0 b.length).length:Nat):Int)
   rw [hl1,hl]
   unfold dH
   omega
  have er:(t'.dS nd.length).cN.set 0 b.length=b.length::List.replicate (dH b.length) 0:=by
   rw [←k3,sC,rV];rfl
  have s2:(t'.uq nd.length ((t'.dS nd.length).cN.set 0 b.length)).jS (t'.fk nd.length) 8 b=(t'.uq nd.length (j8 b),0):=by
   unfold jS
   rw [if_pos as4,iA,eo]
   have q:=S3 v' hh ((t'.dS nd.length).cN.set 0 b.length) (j8 b)
   rw [←q]
   conv=>rhs;unfold RS.uq
   rw [show ((t'.setObj nd.length {t'.dS nd.length with cN:=(t'.dS nd.length).cN.set 0 b.length}).dS nd.length)={t'.dS nd.length with cN:=(t'.dS nd.length).cN.set 0 b.length}from eo]
   show (RS.setObj _ _ {t'.dS nd.length with cN:=fO ((t'.dS nd.length).cN.set 0 b.length) 8 b},(0:Int))=_
   rw [er]
   rfl
  have HX:(j8 b).length=(t'.dS nd.length).cN.length:=by rw [hl];exact ok.is.len
  refine⟨t'.uq nd.length (j8 b),?_,v'.uq hh HX ok.is.lt,?_,n.bC.trans st.bC,fun id=>by rw [ln];exact n.da id⟩
  ·unfold y9
   rw [e]
   simp only [if_true]
   rw [←as9,s1]
   simp only
   rw [s2,Lt v' hh HX]
  ·have q:=UZ.setObj v' hh (o:={t'.dS nd.length with cN:=j8 b}) rfl
   have e2:(nd++[(⟨1,List.replicate 0 0,List.replicate (1+dH b.length) 0⟩:di)]).set nd.length ⟨(t'.dS nd.length).kind,(t'.dS nd.length).cY,j8 b⟩=nd++[oV b]:=by
    rw [gp _ _ (bH _),dD,←k1,←k2]
    rfl
   rw [e2]at q
   exact q
end
end RS
namespace RS
section
variable {s:RS}
theorem zR(s:RS):∀(dN:LN) (g:Gc) (x:Nat),x∈(s.eF g dN).cq∨x∈(s.eF g dN).eI→x∈g.cq∨x∈g.eI∨x∈dN
 | [],g,x,h=>h.imp_right .inl
 |r::dN,g,x,h=>by
  have h:x∈(s.eF (s.gz g r) dN).cq∨x∈(s.eF (s.gz g r) dN).eI:=h
  rcases zR s dN _ x h with h|h|h
  ·unfold gz at h
   split at h
   ·exact .inl h
   ·split at h
    ·exact .inl h
    ·rcases bI.1 h with h|h
     ·exact .inl h
     ·exact .inr (.inr (by rw [bM.1 h];exact bQ ..))
  ·unfold gz at h
   split at h
   ·exact .inr (.inl h)
   ·split at h
    ·rcases bI.1 h with h|h
     ·exact .inr (.inl h)
     ·exact .inr (.inr (by rw [bM.1 h];exact bQ ..))
    ·exact .inr (.inl h)
  ·exact .inr (.inr (bJ _ h))
end
end RS
inductive vD (nd:List di) (bC:List (Option Nat)):Nat→Prop
 |root {id:Nat}:some id∈bC→id≠0→vD nd bC id
 |next {a id:Nat} {n:di}:vD nd bC a→nd[a]?=some n→id∈n.cY→id≠0→vD nd bC id
def di.sz(n:di):Nat:=1+n.cY.length+n.cN.length
def ix (l:List (Option Nat)) (id:Nat):List (Option Nat):=if RS.dV l<l.length then l.set (RS.dV l) (some id)else l++[some id]
theorem nO:∀l:List (Option Nat),l.getD (RS.dV l) none=none
 | []=>rfl
 |none::l=>rfl
 |some x::l=>nO l
theorem kK (l:List (Option Nat)) (id j:Nat):(ix l id).getD j none=if j=RS.dV l then some id else l.getD j none:=by
 have uc:=RS.vm l
 unfold ix
 simp only [bB]
 split
 ·rename_i h
  by_cases e:j=RS.dV l
  ·subst e;rw [if_pos rfl,cE h];rfl
  ·rw [if_neg e,dl (Ne.symm e)]
 ·have hf:RS.dV l=l.length:=by omega
  by_cases e:j=RS.dV l
  ·rw [if_pos e,e,hf,bN (bH _),dD];rfl
  ·rw [if_neg e]
   by_cases h:j<l.length
   ·rw [bL h]
   ·rw [bV (by simp;omega),bV (by omega)]
theorem NW (l:List (Option Nat)) (id:Nat):(ix l id).length≤max l.length (RS.dV l+1):=by
 have:=RS.vm l
 unfold ix
 split
 ·rw [cd];omega
 ·rw [bG];simp;omega
theorem Ic (l:List (Option Nat)) (k j:Nat):(l.set k none).getD j none=if j=k then none else l.getD j none:=by
 simp only [bB]
 by_cases e:j=k
 ·subst e
  rw [if_pos rfl]
  by_cases h:j<l.length
  ·rw [cE h];rfl
  ·rw [bV (by simp;omega)];rfl
 ·rw [if_neg e,dl (Ne.symm e)]
theorem lV {l:List (Option Nat)} {id:Nat}:some id∈l↔∃j,l.getD j none=some id:=by
 constructor
 ·intro h
  obtain⟨j,hj⟩:=bT.1 h
  exact⟨j,by rw [bB,hj];rfl⟩
 ·rintro⟨j,hj⟩
  rw [bB]at hj
  cases h:l[j]? with
  |none=>rw [h]at hj;cases hj
  |some o=>rw [h]at hj;obtain rfl:o=some id:=hj;exact bx h
namespace RS
section
variable {s t:RS} {nd:List di} {n:di} {id:Nat}
theorem sv(v:s.Inv)(h:s.da id):id≠0:=by
 rcases h with h|h
 ·have:=(v.sm id h).1;omega
 ·exact h.1
theorem tQ(sh:s.vH nd)(hh:s.da id)(hn:nd[id]?=some n):(s.dS id).kind=n.kind∧(s.dS id).cY=n.cY∧(s.dS id).cN=n.cN:=by
 have e:=sh.iL id hh
 rw [hn]at e
 obtain rfl:=bt e
 exact⟨rfl,rfl,rfl⟩
theorem _root_.Go.Ev.vD.da(v:s.Inv)(sh:s.vH nd)(r:vD nd s.bC id):s.da id:=by
 induction r with
 |root h h0=>exact(v.rt _ h).resolve_left h0
 |next ha hn hi h0 ih=>exact(v.rf _ ih _ (by rw [(tQ sh ih hn).2.1];exact hi)).resolve_left h0
structure Kh (t s:RS):Prop where
 iN:t.cM=s.cM
 fk:∀x,t.fk x=s.fk x
 da:∀x,t.da x↔s.da x
theorem Kh.refl(s:RS):Kh s s:=⟨rfl,fun _=>rfl,fun _=>oy⟩
theorem Kh.trans {u:RS}(a:Kh u t)(b:Kh t s):Kh u s:=⟨a.iN.trans b.iN,fun x=>(a.fk x).trans (b.fk x),fun x=>(a.da x).trans (b.da x)⟩
theorem Ep(v:s.Inv)(hh:s.da id){o:nW}(e:ma (s.dS id) o):Kh (s.setObj id o) s:=⟨rfl,vM (v.kz hh) e,fun _=>oy⟩
theorem WR(v:s.Inv)(sh:s.vH nd)(hn:nd[id]?=some n)(hh:s.da id){k x:Nat}(hx:x=0∨s.da x)(hk:k<n.cY.length):
  ∃s',s.iI (s.fk id) (k:Int) (s.fk x)=(s',0)∧s'.vH (nd.set id ⟨n.kind,n.cY.set k x,n.cN⟩)∧Kh s' s∧s'.bC=s.bC:=by
 obtain⟨e1,e2,e3⟩:=tQ sh hh hn
 refine⟨_,U2 v hh (sv v hh) hx (by rw [e2];exact hk),?_,Ep v hh ⟨rfl,by simp,rfl,rfl,rfl⟩,rfl⟩
 have:=sh.setObj v hh (o:={s.dS id with cY:=(s.dS id).cY.set k x}) rfl
 rw [←e1,←e2,←e3]
 exact this
theorem WS(v:s.Inv)(sh:s.vH nd)(hn:nd[id]?=some n)(hh:s.da id){k x:Nat}(hk:k<n.cN.length):
  ∃s',s.iI (s.fk id) ((n.cY.length+k:Nat):Int) x=(s',0)∧s'.vH (nd.set id ⟨n.kind,n.cY,n.cN.set k x⟩)∧Kh s' s∧s'.bC=s.bC:=by
 obtain⟨e1,e2,e3⟩:=tQ sh hh hn
 have q:=AX v (x:=x) (k:=k) hh (sv v hh) (by rw [e3];exact hk)
 rw [e2]at q
 refine⟨_,q,?_,Ep v hh ⟨rfl,rfl,by simp,rfl,rfl⟩,rfl⟩
 have:=sh.setObj v hh (o:={s.dS id with cN:=(s.dS id).cN.set k x}) rfl
 rw [←e1,←e2,←e3]
 exact this
theorem WT(v:s.Inv)(sh:s.vH nd)(hn:nd[id]?=some n)(hh:s.da id){k r:Nat}(hk:n.cY[k]?=some r):s.Cd (s.fk id) (k:Int)=(s.fk r,0) :=
 WP v hh (sv v hh) (by rw [(tQ sh hh hn).2.1];exact hk)
theorem WU(v:s.Inv)(sh:s.vH nd)(hn:nd[id]?=some n)(hh:s.da id){k r:Nat}(hk:n.cN[k]?=some r):s.Cd (s.fk id) ((n.cY.length+k:Nat):Int)=(r,0):=by
 obtain⟨e1,e2,e3⟩:=tQ sh hh hn
 have:=LZ v (k:=k) (r:=r) hh (sv v hh) (by rw [e3];exact hk)
 rw [e2]at this
 exact this
theorem C3(v:s.Inv)(sh:s.vH nd)(hn:nd[id]?=some n)(hh:s.da id){r:Nat}(hr:r∈n.cY):r=0∨s.da r :=
 v.rf id hh r (by rw [(tQ sh hh hn).2.1];exact hr)
theorem aeo(v:s.Inv)(sh:s.vH nd)(hn:nd[id]?=some n)(hh:s.da id):s.uW (s.fk id)=((n.kind,n.cY.length,n.cN.length),0):=by
 obtain⟨e1,e2,e3⟩:=tQ sh hh hn
 unfold uW
 rw [jy v (.inr hh),if_neg (sv v hh),e1,e2,e3]
theorem um(s:RS)(l:List (Option Nat)):Kh (s.jw l) s:=⟨rfl,fun _=>rfl,fun _=>oy⟩
theorem aie(v:s.Inv)(sh:s.vH nd)(hh:id=0∨s.da id):s.uR (s.fk id)=(s.jw (ix s.bC id),dV s.bC+1,0):=by
 unfold uR ix
 rw [if_pos (WO v hh),jy v hh]
theorem LU(s:RS)(m:Nat)(hm:1≤m):s.xT (m:Int)=s.bC.getD (m-1) none:=by
 unfold xT
 have e:((m:Int)-1).toNat=m-1:=by omega
 split
 ·rw [e]
 ·rw [bB,bV (by omega)];rfl
theorem auj(s:RS){m:Nat}(hm:1≤m)(hd:s.bC.getD (m-1) none=some id):s.atF (m:Int)=(s.fk id,0):=by
 unfold atF;rw [LU s m hm,hd]
theorem WW(s:RS){m:Nat}(hm:1≤m)(hd:s.bC.getD (m-1) none=some id):s.yc (m:Int)=(s.jw (s.bC.set (m-1) none),0):=by
 unfold yc;rw [LU s m hm,hd]
 have e:((m:Int)-1).toNat=m-1:=by omega
 rw [e]
theorem aby(v:s.Inv)(sh:s.vH nd){k r w:Nat}(hs:pY (k:Int) (r:Int) (w:Int)) :
  (¬s.zf r w∧∃t,s.alloc k r w=(t,0,31)∧t.vH nd∧t.bC=s.bC∧t.cM=s.cM) ∨
  (s.zf r w∧∃t,s.alloc k r w=(t,t.fk nd.length,0)∧t.vH (nd++[⟨k,List.replicate r 0,List.replicate w 0⟩])∧t.bC=s.bC∧t.cM=s.cM∧t.da nd.length):=by
 have ar:=FY v hs
 have al:=Ip (s:=s) k r w
 have arr:=(TN (s:=s) k r w).2
 rw [bu,bu]at ar
 rcases yq v k r w with⟨h,_⟩|⟨_,t,st,vtx,h⟩
 ·exact absurd hs h
 rcases h with e|⟨t',fk,e,n⟩
 ·left
  rw [e]at ar al arr
  exact⟨fun hr=>absurd (ar.2 hr) (by show ¬((31:Int)=0);omega),t,e,sh.sub st,arr,al⟩
 ·right
  rw [e]at ar al arr
  rw [bu,bu,bu]at n
  have ln:nd.length=t.eB.length:=sh.len.trans st.len.symm
  refine⟨ar.1 rfl,t',?_,n.shd vtx (sh.sub st),arr,al,?_⟩
  ·rw [e,ln,n.fk]
  ·rw [ln];exact(n.da _).2 (.inl rfl)
theorem Uw(v:s.Inv)(sh:s.vH nd):∀(n x:Nat),x∈(s.jA n).cq∨x∈(s.jA n).eI→vD nd s.bC x:=by
 have nz:∀n x,x∈(s.jA n).cq∨x∈(s.jA n).eI→x≠0:=fun n x hx=>sv v ((hU.at v n).da hx)
 intro n
 induction n with
 |zero =>
  intro x h
  have h0:=nz 0 x h
  rcases zR s _ _ x h with h|h|h
  ·simp at h
  ·simp at h
  ·obtain⟨o,ho,e⟩:=ft.1 h
   have e:o=some x:=e
   exact .root (e▸ho) h0
 |succ n ih =>
  intro x h
  have h0:=nz (n+1) x h
  have h:x∈(s.kC (s.jA n)).cq∨x∈(s.kC (s.jA n)).eI:=h
  have step:∀y,(y∈(s.jA n).cq∨y∈(s.jA n).eI)→x∈(s.eF (s.jA n) (s.dS y).cY).cq∨x∈(s.eF (s.jA n) (s.dS y).cY).eI→vD nd s.bC x:=fun y hy hx=>by
   rcases zR s _ _ x hx with h|h|h
   ·exact ih x (.inl h)
   ·exact ih x (.inr h)
   ·exact .next (ih y hy) (sh.iL y ((hU.at v n).da hy)) h h0
  unfold kC at h
  cases e:(s.jA n).cq[(s.jA n).a]? with
  |some y=>rw [e]at h;exact step y (.inl (bx e)) h
  |none =>
   rw [e]at h
   cases e2:(s.jA n).eI[(s.jA n).b]? with
   |some y=>rw [e2]at h;exact step y (.inr (bx e2)) h
   |none=>rw [e2]at h;exact ih x h
theorem Tm(v:s.Inv)(sh:s.vH nd)(x:Nat):(x∈s.eC.cq∨x∈s.eC.eI)↔vD nd s.bC x:=by
 refine⟨Uw v sh _ x,fun r=>?_⟩
 induction r with
 |root h h0=>exact(Ak h).resolve_left h0
 |next ha hn hi h0 ih =>
  have hh:=(hU.nA v).da ih
  exact(vX v ih _ (by rw [(tQ sh hh hn).2.1];exact hi)).resolve_left h0
def qf(nd:List di)(id:Nat):Nat:=((nd[id]?).getD ⟨0,[],[]⟩).sz
def mS(nd:List di)(dN:LN):Nat:=(dN.map fun id=>if qf nd id≤64 then qf nd id else 0).sum
def mT(nd:List di)(dN:LN):Nat:=(dN.map fun id=>if qf nd id≤64 then 0 else qf nd id+1).sum
theorem IH(v:s.Inv)(sh:s.vH nd)(hh:s.da id):s.size id=qf nd id:=by
 unfold qf
 rw [sh.iL id hh]
 rfl
theorem QY(v:s.Inv)(sh:s.vH nd){dN:LN}(Jf:dN.Nodup)(hr:∀x,x∈dN↔vD nd s.bC x):s.ci.cZ=1+mS nd dN∧s.ci.dI=mT nd dN:=by
 have gk:=hU.nA v
 have n1:=cu.1 gk.nd
 have Qu:∀x∈s.eC.cq,s.size x≤64:=fun x hx=>(v.sm x (gk.cp x hx)).2.2.2.1
 have afO:∀x∈s.eC.eI,64<s.size x:=fun x hx=>by
  obtain⟨h0,h1⟩:=gk.ln x hx
  obtain⟨i,hi⟩:=bT.1 h1
  exact(v.sl i x hi h0).2.2.1
 have TC:∀x∈dN,dN.count x=1:=fun x hx=>List.Nodup.count Jf |>.trans (if_pos hx)
 have mem:∀x,(x∈s.eC.cq∨x∈s.eC.eI)↔x∈dN:=fun x=>(Tm v sh x).trans (hr x).symm
 constructor
 ·show 1+s.fG s.eC.cq=_
  have p:=Ek (f:=s.size) dN s.eC.cq n1.1 (fun x hx=>(mem x).1 (.inl hx)) fun x hx=>TC x ((mem x).1 (.inl hx))
  show 1+(s.eC.cq.map s.size).sum=_
  rw [←p]
  unfold mS
  congr 2
  refine cD fun x hx=>?_
  have hg:=(mem x).2 hx
  rw [←IH v sh (gk.da hg)]
  by_cases hc:x∈s.eC.cq
  ·rw [if_pos hc,if_pos (Qu x hc)]
  ·have:=afO x (hg.resolve_left hc)
   rw [if_neg hc,if_neg (by omega)]
 ·rw [Dr v]
  have p:=Ek (f:=fun x=>s.size x+1) dN s.eC.eI n1.2.1 (fun x hx=>(mem x).1 (.inr hx)) fun x hx=>TC x ((mem x).1 (.inr hx))
  show (s.eC.eI.map fun x=>s.size x+1).sum=_
  rw [←p]
  unfold mT
  congr 1
  refine cD fun x hx=>?_
  have hg:=(mem x).2 hx
  rw [←IH v sh (gk.da hg)]
  by_cases hc:x∈s.eC.eI
  ·have:=afO x hc
   rw [if_pos hc,if_neg (by omega)]
  ·have:=Qu x (hg.resolve_right hc)
   rw [if_neg hc,if_pos (by omega)]
end
end RS
theorem BQ {α:Type}{l:List α}{i:Nat}{x:α}(h:l[i]?=some x)(a:α)(j:Nat):(l.set i a)[j]?=if j=i then some a else l[j]?:=by
 have hl:=(bp.1 h).1
 by_cases e:j=i
 ·subst e;rw [if_pos rfl,cE hl]
 ·rw [if_neg e,dl (Ne.symm e)]
section
end
section
end
section
end
def yj(z:Nat):Nat:=if z≤64 then z else 0
def ym(z:Nat):Nat:=if z≤64 then 0 else z+1
def iP(iN S B z:Nat):Prop:=if z≤64 then 2*(S+z)≤iN-B∧B≤iN else B+z+1+2*max S 64≤iN
instance (iN S B z:Nat):Decidable (iP iN S B z):=by unfold iP;exact inferInstance
def wQ (l m:List (Option Nat)):Prop:=∀j,l.getD j none=m.getD j none
theorem wQ.refl (l:List (Option Nat)):wQ l l:=fun _=>rfl
theorem wQ.symm {l m:List (Option Nat)} (h:wQ l m):wQ m l:=fun j=>(h j).symm
theorem wQ.trans {l m k:List (Option Nat)} (a:wQ l m) (b:wQ m k):wQ l k:=fun j=>(a j).trans (b j)
theorem wQ.mem {l m:List (Option Nat)} (h:wQ l m) (id:Nat):some id∈l↔some id∈m:=by
 rw [lV,lV]
 exact⟨fun⟨j,hj⟩=>⟨j,(h j).symm.trans hj⟩,fun⟨j,hj⟩=>⟨j,(h j).trans hj⟩⟩
theorem wQ.back {l m:List (Option Nat)} {id:Nat} (h:∀j,m.getD j none=if j=RS.dV l then some id else l.getD j none):wQ (m.set (RS.dV l) none) l:=fun j=>by
 rw [Ic]
 by_cases e:j=RS.dV l
 ·rw [if_pos e,e,nO]
 ·rw [if_neg e,h,if_neg e]
theorem oP {l:List (Option Nat)} {id x:Nat}:some x∈ix l id↔x=id∨some x∈l:=by
 rw [lV,lV]
 constructor
 ·rintro⟨j,hj⟩
  rw [kK]at hj
  split at hj
  ·exact .inl (bt hj).symm
  ·exact .inr ⟨j,hj⟩
 ·rintro(e|⟨j,hj⟩)
  ·exact⟨RS.dV l,by rw [kK,if_pos rfl,e]⟩
  ·refine⟨j,?_⟩
   rw [kK,if_neg,hj]
   intro e
   rw [e,nO]at hj
   cases hj
theorem vD.T5 {nd:List di}{l m:List (Option Nat)} (h:wQ l m) {x:Nat} (r:vD nd l x):vD nd m x:=by
 induction r with
 |root a b=>exact .root ((h.mem _).1 a) b
 |next _ a b c ih=>exact .next ih a b c
structure Lv (nd:List di) (bC:List (Option Nat)) (dN:LN):Prop where
 CV:dN.Nodup
 S4:∀x,x∈dN↔vD nd bC x
theorem Lv.T5 {nd:List di}{l m:List (Option Nat)} {dN:LN} (h:wQ l m) (v:Lv nd l dN):Lv nd m dN:=⟨v.CV,fun x=>(v.S4 x).trans ⟨vD.T5 h,vD.T5 h.symm⟩⟩
theorem Lv.of {nd:List di}{bC:List (Option Nat)} {dN:LN} (h1:dN.Nodup) (h2:∀id,some id∈bC→id≠0→id∈dN) (h3:∀x∈dN,∀m,nd[x]?=some m→∀y∈m.cY,y≠0→y∈dN) (h4:∀x∈dN,vD nd bC x):Lv nd bC dN :=
 ⟨h1,fun x=>⟨h4 x,fun r=>by
  induction r with
  |root a b=>exact h2 _ a b
  |next _ a b c ih=>exact h3 _ ih _ a _ b c⟩⟩
namespace RS
section
variable {s t:RS} {nd:List di} {dN:LN} {b:LN}
theorem Hz(v:s.Inv)(sh:s.vH nd)(lv:Lv nd s.bC dN)(r w:Nat):s.zf r w↔iP s.cM (1+mS nd dN) (mT nd dN) (1+r+w):=by
 obtain⟨e1,e2⟩:=QY v sh lv.CV lv.S4
 unfold zf iP
 rw [e1,e2]
theorem anu(v:s.Inv)(sh:s.vH nd)(ok:Ko b):
  (¬s.zf 0 (1+dH b.length)∧∃t,s.y9 b=(t,0,31)∧t.vH nd∧t.bC=s.bC∧t.cM=s.cM) ∨
  (s.zf 0 (1+dH b.length)∧∃t,s.y9 b=(t,t.fk nd.length,0)∧t.vH (nd++[oV b])∧t.bC=s.bC∧t.cM=s.cM∧t.da nd.length):=by
 have hw:dH b.length≤513:=by have:=ok.len;unfold dH;omega
 have ar:=FY v (⟨⟨by omega,by omega⟩,⟨by omega,by omega⟩,by omega,by omega⟩:pY 1 0 ((1+dH b.length:Nat):Int))
 rw [bu,show (0:Int).toNat=0 from rfl]at ar
 have al:=Ip (s:=s) 1 0 ((1+dH b.length:Nat):Int)
 obtain⟨t,st,vtx,h⟩:=S1 v sh ok
 rcases h with e|⟨s',e,v',UZ,er,hh⟩
 ·left
  refine⟨fun hr=>?_,t,e,sh.sub st,st.bC,?_⟩
  ·have h0:=ar.2 hr
   unfold y9 at e
   rw [if_pos h0]at e
   have:=congrArg (fun z=>z.2.2) e
   exact absurd this (by show ¬((0:Int)=31);omega)
  ·unfold y9 at e
   by_cases h0:(s.alloc 1 0 ((1+dH b.length:Nat):Int)).2.2=0
   ·rw [if_pos h0]at e
    have:=congrArg (fun z=>z.2.2) e
    exact absurd this (by show ¬((0:Int)=31);omega)
   ·rw [if_neg h0]at e
    have:=congrArg (fun z=>z.1.cM) e
    have this:(s.alloc 1 0 ((1+dH b.length:Nat):Int)).1.cM=t.cM:=this
    rw [←this,al]
 ·right
  have h0:(s.alloc 1 0 ((1+dH b.length:Nat):Int)).2.2=0:=iq fun h0=>by
   unfold y9 at e
   rw [if_neg h0]at e
   have:=congrArg (fun z=>z.2.2) e
   exact h0 this
  refine⟨ar.1 h0,s',e,UZ,er,?_,(hh _).2 (.inl rfl)⟩
  have e2:=e
  unfold y9 at e2
  rw [if_pos h0]at e2
  have:=congrArg (fun z=>z.1.cM) e2
  have this:_=s'.cM:=this
  rw [←this]
  exact(GC _ _ _).trans ((U3 _ _ _).trans al)
end
end RS
section
variable {nd:List di} {bC:List (Option Nat)} {dN:LN} {b:LN} {n:di}
theorem UN(h:∀x∈dN,x<nd.length)(m:List di):dN.map (RS.qf (nd++m))=dN.map (RS.qf nd) :=
 cD fun x hx=>by unfold RS.qf;rw [bL (h x hx)]
theorem UM(nd:List di)(n:di):RS.qf (nd++[n]) nd.length=n.sz:=by unfold RS.qf;rw [bN (bH _),dD];rfl
theorem Lm(nd:List di)(dN:LN):RS.mS nd dN=((dN.map (RS.qf nd)).map yj).sum:=by unfold RS.mS yj;rw [fh];rfl
theorem Lo(nd:List di)(dN:LN):RS.mT nd dN=((dN.map (RS.qf nd)).map ym).sum:=by unfold RS.mT ym;rw [fh];rfl
theorem Ll(h:∀x∈dN,x<nd.length)(n:di):RS.mS (nd++[n]) (dN++[nd.length])=RS.mS nd dN+yj n.sz∧RS.mT (nd++[n]) (dN++[nd.length])=RS.mT nd dN+ym n.sz:=by
 rw [Lm,Lo,Lm,Lo,cx,UN h]
 simp [UM]
theorem Lv.leaf(lv:Lv nd bC dN)(fE:∀x∈dN,x<nd.length)(hn:∀r∈n.cY,r=0)(hp:nd.length≠0)(ho:∀x,some x∈bC→x<nd.length)(Jj:∀x∈dN,∀m,nd[x]?=some m→∀y∈m.cY,y<nd.length):
  Lv (nd++[n]) (ix bC nd.length) (dN++[nd.length]):=by
 have Tw:∀x,vD nd bC x→vD (nd++[n]) (ix bC nd.length) x:=fun x r=>by
  induction r with
  |root a b=>exact .root (oP.2 (.inr a)) b
  |next ha a b c ih=>exact .next ih ((bL (fE _ ((lv.S4 _).2 ha))).trans a) b c
 refine Lv.of ?_ (fun id h h0=>?_) (fun x hx m hm y hy h0=>?_) fun x hx=>?_
 ·rw [cu]
  exact⟨lv.CV,by simp,fun x hx y hy e=>by rw [bM.1 hy]at e;have:=fE x hx;omega⟩
 ·rcases oP.1 h with e|h
  ·rw [e];exact bK _ (bM.2 rfl)
  ·exact bW _ ((lv.S4 _).2 (.root h h0))
 ·rcases bI.1 hx with hx|hx
  ·have hl:=fE x hx
   rw [bL hl]at hm
   exact bW _ ((lv.S4 _).2 (.next ((lv.S4 _).1 hx) hm hy h0))
  ·rw [bM.1 hx,bN (bH _),dD]at hm
   obtain rfl:n=m:=bt hm
   exact absurd (hn y hy) h0
 ·rcases bI.1 hx with hx|hx
  ·exact Tw x ((lv.S4 _).1 hx)
  ·rw [bM.1 hx];exact .root (oP.2 (.inl rfl)) hp
end
end Go.Ev
