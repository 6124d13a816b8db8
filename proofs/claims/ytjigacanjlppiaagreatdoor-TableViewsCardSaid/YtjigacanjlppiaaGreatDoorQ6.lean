/- A collection of the words is the walk of the. No condition. -/
import Derived.Test.YtjigacanjlppiaaGreatDoorQ5
set_option linter.all false
set_option maxRecDepth 1000000
open Go.IntKind (wrap)
namespace Go.Ev
namespace RS
theorem lR {s:RS}:∀(l r:LN) (p id:Nat),id∈l→s.gq (l++r) p id=s.gq l p id
 | [],_,_,_,h=>by cases h
 |x::l,r,p,id,h=>by
  show (if x=id then p else s.gq (l++r) (p+s.size x) id)=if x=id then p else s.gq l (p+s.size x) id
  split
  ·rfl
  ·rename_i hx
   exact lR l r _ id ((ck.1 h).resolve_left fun e=>hx e.symm)
theorem sj {s:RS}:∀(l:LN) (p id:Nat),id∉l→s.gq (l++[id]) p id=p+s.fG l
 | [],p,id,_=>by show (if id=id then p else _)=_;rw [if_pos rfl];rfl
 |x::l,p,id,h=>by
  show (if x=id then p else s.gq (l++[id]) (p+s.size x) id)=_
  rw [if_neg (fun e:x=id=>h (e▸bQ ..)),sj l _ id fun e=>h (bJ _ e)]
  show _=p+(s.size x+s.fG l)
  omega
theorem zS {s:RS}:∀(l:LN) (p i id:Nat),l.Nodup→l[i]?=some id→s.gq l p id=p+s.fG (l.take i)
 | [],_,_,_,_,h=>by simp at h
 |x::l,p,0,id,_,h=>by
  obtain rfl:x=id:=by simpa using h
  show (if x=x then p else _)=_
  rw [if_pos rfl];rfl
 |x::l,p,i+1,id,hn,h=>by
  have h:l[i]?=some id:=by simpa using h
  have hx:x≠id:=fun e=>(cV.1 hn).1 (e▸bx h)
  show (if x=id then p else s.gq l (p+s.size x) id)=_
  rw [if_neg hx,zS l _ i id (cV.1 hn).2 h,rS]
  show _=p+(s.size x+s.fG (l.take i))
  omega
def jb(s:RS)(g:Gc)(id:Nat):Nat:=if id=0 then 0 else if(s.dS id).Au=true then qO+(s.dS id).pl else s.gq g.cq 1 id
def rj(s:RS)(g:Gc)(d id:Nat):dg:=⟨(s.dS id).kind,((s.dS id).cY.take d).map (s.jb g)++((s.dS id).cY.drop d).map s.fk,(s.dS id).cN,none⟩
def enc(s:RS)(id:Nat):dg:=⟨(s.dS id).kind,(s.dS id).cY.map s.fk,(s.dS id).cN,none⟩
theorem Cp(s:RS)(g:Gc)(id:Nat):s.rj g 0 id=s.enc id:=by simp [rj,enc]
theorem Cq(s:RS)(g:Gc)(d id:Nat):(s.rj g d id).size=s.size id:=by
 rw [dg.AW]
 unfold rj RS.size nW.size
 simp only [bG,bA,dm,fu]
 omega
theorem kT(s:RS)(id:Nat):(s.enc id).size=s.size id:=by rw [dg.AW];unfold enc RS.size nW.size;simp
structure kX (s:RS) (g:Gc) (dn:Nat→Nat) (m:MH):Prop where
 dJ:m.dJ=s.dG.map fun id=>{s.enc id with rQ:=if id∈g.cq then some (s.gq g.cq 1 id)else none}
 dC:m.dC=g.cq.map fun id=>s.rj g (dn id) id
 blocks:m.blocks=s.cK.map fun id=>if id=0 then none else some (s.rj g (dn id) id)
 dL:m.dL=s.cK.map fun id=>decide (id∈g.eI)
 kS:m.kS=(g.eI.drop g.b).map fun id=>(s.dS id).pl
 dn0:∀id,id∉g.cq→id∉g.eI→dn id=0
 dnr:∀id r,r∈((s.dS id).cY.take (dn id))→r=0∨r∈g.cq∨r∈g.eI
 sz:m.sz=s.dJ
theorem AO {s:RS}{f:Nat→dg}(hf:∀id,(f id).size=s.size id) (l:LN):Go.Ev.cZ (l.map f)=1+s.fG l:=by
 rw [sf,fh]
 unfold RS.fG
 congr 2
 exact cD fun id _=>hf id
theorem yD {s:RS}{f:Nat→dg}(hf:∀id,(f id).size=s.size id) (l:LN) (i:Nat):pos (l.map f) i=1+s.fG (l.take i):=by
 unfold pos
 rw [←mM,AO hf]
theorem Inv.qQ {s:RS}(v:s.Inv){id:Nat}(h:id∈s.dG):∃i,s.dG[i]?=some id∧(s.dS id).pl=1+s.fG (s.dG.take i):=by
 obtain⟨i,hi⟩:=bT.1 h
 exact⟨i,hi,by rw [(v.sm id h).2.2.2.2,zS _ _ _ _ v.VP hi]⟩
theorem kX.zB {s:RS}(v:s.Inv){g:Gc}{dn:Nat→Nat}{m:MH}(c:kX s g dn m){id:Nat}(h:id∈s.dG):∃i,s.dG[i]?=some id∧Go.Ev.zB m.dJ (s.dS id).pl=some i ∧
  m.dJ[i]?=some {s.enc id with rQ:=if id∈g.cq then some (s.gq g.cq 1 id)else none}:=by
 obtain⟨i,hi,hp⟩:=v.qQ h
 have vF:∀x,(({s.enc x with rQ:=if x∈g.cq then some (s.gq g.cq 1 x)else none}:dg)).size=s.size x:=fun x=>s.kT x
 refine⟨i,hi,?_,?_⟩
 ·rw [jL,c.dJ]
  exact⟨by rw [bA];exact(bp.1 hi).1,by rw [yD vF,hp]⟩
 ·rw [c.dJ,bD,hi];rfl
theorem kX.sH {s:RS}{g:Gc}{dn:Nat→Nat}{m:MH}(c:kX s g dn m):Go.Ev.cZ m.dC=1+s.fG g.cq:=by
 rw [c.dC]
 exact AO (fun id=>s.Cq g (dn id) id) _
theorem iQ(s:RS):s.fk 0=0:=by unfold RS.fk;rw [if_pos rfl]
theorem yA {s:RS}{id:Nat}(h0:id≠0)(hb:(s.dS id).Au=true):s.fk id=qO+(s.dS id).pl:=by unfold RS.fk;rw [if_neg h0,if_pos hb]
theorem oQ {s:RS}{id:Nat}(h0:id≠0)(hb:(s.dS id).Au=false):s.fk id=(s.dS id).pl:=by unfold RS.fk;rw [if_neg h0,if_neg (by rw [hb];nofun)]
theorem K0 {s:RS}(v:s.Inv){g:Gc}{id r:Nat}(hr:r=0∨r∈g.cq∨r∈g.eI)(hl:∀x∈g.eI,x≠0∧x∈s.cK):s.jb (s.gz g id) r=s.jb g r:=by
 unfold jb
 split
 ·rfl
 ·rename_i h0
  split
  ·rfl
  ·rename_i hb
   rcases hr with h|h|h
   ·exact absurd h h0
   ·obtain⟨t,ht⟩:=(s.uS g id).1
    rw [←ht]
    exact lR g.cq t 1 r h
   ·obtain⟨h1,h2⟩:=hl r h
    obtain⟨k,hk⟩:=bT.1 h2
    exact absurd (v.sl k r hk h1).2.1 hb
theorem Tx {s:RS}(v:s.Inv){g:Gc}{id d x:Nat}(hr:∀r∈(s.dS x).cY.take d,r=0∨r∈g.cq∨r∈g.eI) (hl:∀x∈g.eI,x≠0∧x∈s.cK):s.rj (s.gz g id) d x=s.rj g d x:=by
 unfold rj
 have:((s.dS x).cY.take d).map (s.jb (s.gz g id))=((s.dS x).cY.take d).map (s.jb g):=cD fun r h=>K0 v (hr r h) hl
 rw [this]
theorem uT {s:RS}{g:Gc}{id:Nat}(h:id=0∨id∈g.cq∨id∈g.eI):s.gz g id=g:=by unfold RS.gz;rw [if_pos h]
theorem yC {s:RS}{g:Gc}{id:Nat}(h:¬(id=0∨id∈g.cq∨id∈g.eI)) (hb:(s.dS id).Au=true):s.gz g id={g with eI:=g.eI++[id]}:=by unfold RS.gz;rw [if_neg h,if_pos hb]
theorem tV {s:RS}{g:Gc}{id:Nat}(h:¬(id=0∨id∈g.cq∨id∈g.eI)) (hb:(s.dS id).Au=false):s.gz g id={g with cq:=g.cq++[id]}:=by unfold RS.gz;rw [if_neg h,if_neg (by rw [hb];nofun)]
theorem kX.Vn {s:RS}(v:s.Inv){g:Gc}{dn:Nat→Nat}{m:MH}(c:kX s g dn m)(k:hU s g){id:Nat}(h0:id≠0)(hb:(s.dS id).Au=true) (hs:id∈s.cK) :
  (gC m (s.fk id)).2=s.jb (s.gz g id) id∧kX s (s.gz g id) dn (gC m (s.fk id)).1:=by
 obtain⟨i,hi⟩:=bT.1 hs
 have za:(s.dS id).pl=i:=(v.sl i id hi h0).2.2.2
 have C2:m.dL.getD (s.dS id).pl false=decide (id∈g.eI):=by
  rw [za,c.dL,bB,bD,hi];rfl
 have hnr:∀g',s.jb g' id=qO+(s.dS id).pl:=fun g'=>by unfold jb;rw [if_neg h0,if_pos hb]
 rw [yA h0 hb,CY,C2,hnr]
 by_cases hl:id∈g.eI
 ·rw [if_pos (by simpa using hl),uT (.inr (.inr hl))]
  exact⟨rfl,c⟩
 ·have hc:id∉g.cq:=fun h=>by have:=(v.sm id (k.cp id h)).2.2.1;rw [hb]at this;cases this
  rw [if_neg (by simpa using hl),yC (by simp [h0,hc,hl]) hb]
  refine⟨rfl,⟨c.dJ,c.dC,c.blocks,?_,?_,fun x h1 h2=>c.dn0 x h1 fun h=>h2 (bW _ h),fun x r hr=>(c.dnr x r hr).imp_right fun h=>h.imp_right fun h=>bW _ h,c.sz⟩⟩
  ·show m.dL.set (s.dS id).pl true=_
   rw [za,c.dL]
   apply cG
   intro j
   rw [bD]
   by_cases hj:j=i
   ·subst hj
    rw [cE (by rw [bA];exact(bp.1 hi).1),hi]
    simp
   ·rw [dl (Ne.symm hj),bD]
    cases hx:s.cK[j]? with
    |none=>rfl
    |some x =>
     have iS:x≠id:=fun e=>by
      subst e
      have:=(v.sl j x hx h0).2.2.2
      omega
     simp [iS]
  ·show m.kS++[(s.dS id).pl]=_
   rw [c.kS,List.drop_append_of_le_length k.b,cx]
   rfl
theorem kX.N3 {s:RS}(v:s.Inv){g:Gc}{dn:Nat→Nat}{m:MH}(c:kX s g dn m)(k:hU s g){id:Nat}(hs:id∈s.dG):
  (gC m (s.fk id)).2=s.jb (s.gz g id) id∧kX s (s.gz g id) dn (gC m (s.fk id)).1:=by
 obtain⟨h1,h2,hb,h3,h4⟩:=v.sm id hs
 have h0:id≠0:=by omega
 obtain⟨i,hi,hix,ho⟩:=c.zB v hs
 have hpp:1≤(s.dS id).pl∧(s.dS id).pl<qO:=by
  obtain⟨j,hj,hp⟩:=v.qQ hs
  have uc:s.fG (s.dG.take j)≤s.fG s.dG:=by
   unfold RS.fG
   have:s.dG=s.dG.take j++s.dG.drop j:=(eZ j _).symm
   conv=>rhs;rw [this]
   rw [cx,iG]
   omega
  have:=v.u1;have:=v.u2;have:=v.h2;have:=v.l2
  have ht:qO=9223372036854775808:=rfl
  omega
 have hnr:∀g',s.jb g' id=s.gq g'.cq 1 id:=fun g'=>by unfold jb;rw [if_neg h0,if_neg (by rw [hb];nofun)]
 have hm:gC m (s.dS id).pl=if id∈g.cq then(m,s.gq g.cq 1 id)else
   ({m with dJ:=m.dJ.modify i fun o=>{o with rQ:=some (Go.Ev.cZ m.dC)},dC:=m.dC++[s.enc id]},Go.Ev.cZ m.dC):=by
  unfold gC
  rw [if_neg (by omega),if_neg (by omega),hix]
  simp only [dX,ho,mb]
  by_cases hc:id∈g.cq
  ·simp only [if_pos hc]
  ·simp only [if_neg hc]
   rfl
 rw [oQ h0 hb,hm,hnr]
 by_cases hc:id∈g.cq
 ·rw [if_pos hc,uT (.inr (.inl hc))]
  exact⟨rfl,c⟩
 ·have hl:id∉g.eI:=fun h=>by
   obtain⟨_,h5⟩:=k.ln id h
   obtain⟨j,hj⟩:=bT.1 h5
   have:=(v.sl j id hj h0).2.1
   rw [hb]at this;cases this
  have hn:¬(id=0∨id∈g.cq∨id∈g.eI):=by simp [h0,hc,hl]
  have hr:=tV hn hb
  have hd:dn id=0:=c.dn0 id hc hl
  have hk2:∀x,s.rj (s.gz g id) (dn x) x=s.rj g (dn x) x:=fun x=>Tx v (fun r h=>c.dnr x r h) k.ln
  rw [if_neg hc]
  rw [hr]at hk2 ⊢
  refine⟨?_,⟨?_,?_,?_,c.dL,c.kS,fun x q1 q2=>c.dn0 x (fun h=>q1 (bW _ h)) q2,fun x r hr=>(c.dnr x r hr).imp_right fun h=>h.imp_left fun h=>bW _ h,c.sz⟩⟩
  ·show Go.Ev.cZ m.dC=s.gq (g.cq++[id]) 1 id
   rw [sj _ _ _ hc,c.sH]
  ·show m.dJ.modify i _=_
   rw [c.sH,c.dJ]
   apply cG
   intro j
   rw [dQ,bD,bD]
   cases hxj:s.dG[j]? with
   |none=>rfl
   |some x =>
    show some _=some _
    congr 1
    by_cases hj:i=j
    ·subst hj
     rw [hi]at hxj
     obtain rfl:=bt hxj
     simp only [if_true]
     rw [if_pos (bK _ (bM.2 rfl)),sj _ _ _ hc]
    ·have iS:x≠id:=fun e=>by
      subst e
      exact hj ((jV (bp.1 hi).1 v.VP).1 (hi.trans hxj.symm))
     have q:(if x∈g.cq++[id]then some (s.gq (g.cq++[id]) 1 x)else none)=if x∈g.cq then some (s.gq g.cq 1 x)else none:=by
      by_cases Ly:x∈g.cq
      ·rw [if_pos Ly,if_pos (bW _ Ly),lR _ _ _ _ Ly]
      ·rw [if_neg Ly,if_neg (by simp [Ly,iS])]
     simp only [if_neg hj,q]
  ·show m.dC++[s.enc id]=(g.cq++[id]).map _
   rw [c.dC,cx]
   congr 1
   ·exact cD fun x _=>(hk2 x).symm
   ·show [s.enc id]=[s.rj _ (dn id) id]
    rw [hk2,hd,Cp]
  ·show m.blocks=_
   rw [c.blocks]
   exact cD fun x _=>by
    by_cases hx:x=0
    ·rw [if_pos hx,if_pos hx]
    ·rw [if_neg hx,if_neg hx,hk2]
theorem qR {s:RS}:∀(l m:LN),l.Nodup→(∀x∈l,x∈m)→s.fG l≤s.fG m
 | [],_,_,_=>cP _
 |x::l,m,hn,hs=>by
  obtain⟨a,b,rfl⟩:=oL (hs x (bQ ..))
  have h1:=qR (s:=s) l (a++b) (cV.1 hn).2 fun y hy=>by
   have:=hs y (bJ _ hy)
   have iS:y≠x:=fun e=>(cV.1 hn).1 (e▸hy)
   simp only [bI,ck]at this ⊢
   rcases this with h|h|h
   ·exact .inl h
   ·exact absurd h iS
   ·exact .inr h
  unfold RS.fG at h1 ⊢
  simp only [cx,cU,iG,f8]at h1 ⊢
  omega
theorem B6:∀(l m:LN),l.Nodup→(∀x∈l,x∈m)→l.length≤m.length
 | [],_,_,_=>cP _
 |x::l,m,hn,hs=>by
  obtain⟨a,b,rfl⟩:=oL (hs x (bQ ..))
  have h1:=B6 l (a++b) (cV.1 hn).2 fun y hy=>by
   have:=hs y (bJ _ hy)
   have iS:y≠x:=fun e=>(cV.1 hn).1 (e▸hy)
   simp only [bI,ck]at this ⊢
   rcases this with h|h|h
   ·exact .inl h
   ·exact absurd h iS
   ·exact .inr h
  simp only [bG,dF]at h1 ⊢
  omega
theorem kX.EL {s:RS}(v:s.Inv){g:Gc}{dn:Nat→Nat}{m:MH}(c:kX s g dn m)(k:hU s g){id:Nat}(iA:id=0∨s.da id):
  (gC m (s.fk id)).2=s.jb (s.gz g id) id∧kX s (s.gz g id) dn (gC m (s.fk id)).1:=by
 by_cases h0:id=0
 ·subst h0
  rw [iQ,E0,uT (.inl rfl)]
  exact⟨by unfold jb;rw [if_pos rfl],c⟩
 ·rcases v.At (iA.resolve_left h0)with⟨hb,hs,_⟩|⟨_,hs⟩
  ·exact c.Vn v k h0 hb hs
  ·exact c.N3 v k hs
theorem kX.VQ {s:RS}(v:s.Inv){g:Gc}{dn:Nat→Nat}{m:MH}(c:kX s g dn m)(k:hU s g){id:Nat}(iA:id=0∨s.da id):PZ m (s.fk id):=by
 have ht:qO=9223372036854775808:=rfl
 have vg:=v.Sp
 have hnl:g.eI.Nodup:=(cu.1 k.nd).2.1
 have AJ:=B6 g.eI s.cK hnl fun x hx=>(k.ln x hx).2
 refine⟨?_,?_⟩
 ·rw [c.kS,bA,fu];omega
 by_cases h0:id=0
 ·subst h0;exact .inl (iQ s)
 ·rcases v.At (iA.resolve_left h0)with⟨hb,hs,_⟩|⟨hb,hs⟩
  ·obtain⟨i,hi⟩:=bT.1 hs
   have za:(s.dS id).pl=i:=(v.sl i id hi h0).2.2.2
   have iZ:=(bp.1 hi).1
   exact .inr (.inl ⟨(s.dS id).pl,yA h0 hb,by rw [c.dL,bA];omega,by omega⟩)
  ·obtain⟨i,hi,hix,ho⟩:=c.zB v hs
   obtain⟨j,hj,hp⟩:=v.qQ hs
   have uc:s.fG (s.dG.take j)≤s.fG s.dG:=qR _ _ (v.VP.sublist (mX j _)) fun x hx=>dK hx
   have:=v.u1;have:=v.u2;have:=v.h2;have:=v.l2
   refine .inr (.inr ⟨by rw [oQ h0 hb];omega,by rw [oQ h0 hb];omega,i,_,by rw [oQ h0 hb];exact hix,ho,fun hf=>?_⟩)
   have hc:id∉g.cq:=fun h=>by simp [h]at hf
   have vF:=qR (s:=s) (g.cq++[id]) s.dG (by
    rw [cu]
    refine⟨(cu.1 k.nd).1,by simp,?_⟩
    intro x hx y hy e
    rw [bM.1 hy]at e
    exact hc (e▸hx)) fun x hx=>by
     rcases bI.1 hx with hx|hx
     ·exact k.cp x hx
     ·rw [bM.1 hx];exact hs
   have he:s.fG (g.cq++[id])=s.fG g.cq+s.size id:=by unfold RS.fG;simp
   rw [c.sH,c.sz]
   have hos:(({s.enc id with rQ:=if id∈g.cq then some (s.gq g.cq 1 id)else none}:dg)).size=s.size id:=s.kT id
   rw [hos]
   omega
end RS
namespace RS
def jR(dn:Nat→Nat)(id n x:Nat):Nat:=if x=id then n else dn x
theorem m7(dn:Nat→Nat)(id n:Nat):jR dn id n id=n:=by unfold jR;rw [if_pos rfl]
theorem p8 {dn:Nat→Nat}{id n x:Nat}(h:x≠id):jR dn id n x=dn x:=by unfold jR;rw [if_neg h]
theorem ux(s:RS)(g:Gc)(d id:Nat):(s.rj g d id).cY.length=(s.dS id).cY.length:=by
 unfold rj
 simp only [bG,bA,dm,fu]
 omega
theorem Br {s:RS}{g:Gc}{n id r:Nat}(h:(s.dS id).cY[n]?=some r):(s.rj g n id).fA.getD n 0=s.fk r:=by
 have hn:=(bp.1 h).1
 rw [bB]
 unfold dg.fA
 rw [bL (by rw [ux];exact hn)]
 unfold rj
 simp only
 rw [bN (by simp;omega)]
 simp only [bA,dm,bD,fi]
 rw [ji (by omega),dD,iF,h]
 rfl
theorem MU {s:RS}{g:Gc}{n id r:Nat}(h:(s.dS id).cY[n]?=some r):(s.rj g n id).iI n (s.jb g r)=s.rj g (n+1) id:=by
 have hn:=(bp.1 h).1
 unfold dg.iI
 rw [if_pos (by rw [ux];exact hn)]
 unfold rj
 simp only [dg.mk.injEq,true_and,and_true]
 apply cG
 intro j
 by_cases hj:j=n
 ·subst hj
  rw [cE (by simp;omega),bL (by simp;omega),bD,gF,if_pos (by omega),h]
  rfl
 ·rw [dl (Ne.symm hj)]
  rcases eS j n with fE|o5
  ·rw [bL (by simp;omega),bL (by simp;omega),bD,bD,gF,gF,if_pos fE,if_pos (by omega)]
  ·rw [bN (by simp;omega),bN (by simp;omega)]
   simp only [bA,dm,bD,fi]
   congr 2
   omega
theorem wl {s:RS}(v:s.Inv){id x i:Nat}(hs:id∈s.dG)(hx:s.cK[i]?=some x)(h0:x≠0):x≠id:=fun e=>by
 have h1:=(v.sl i x hx h0).2.1
 rw [e,(v.sm id hs).2.2.1]at h1
 cases h1
theorem RM {s:RS}{g:Gc}{dn:Nat→Nat}{m:MH}(c:kX s g dn m){id n r:Nat}(hd:dn id=n)(hr:(s.dS id).cY[n]?=some r) (GX:r=0∨r∈g.cq∨r∈g.eI) :
  ∀x y,y∈(s.dS x).cY.take (jR dn id (n+1) x)→y=0∨y∈g.cq∨y∈g.eI:=by
 intro x y hy
 by_cases hx:x=id
 ·subst hx
  rw [m7,mY,hr]at hy
  rcases bI.1 hy with hy|hy
  ·exact c.dnr x y (by rw [hd];exact hy)
  ·have:y=r:=by simpa using hy
   rw [this];exact GX
 ·rw [p8 hx]at hy
  exact c.dnr x y hy
theorem kX.ala {s:RS}(v:s.Inv){g:Gc}{dn:Nat→Nat}{m:MH}(c:kX s g dn m)(k:hU s g){a id n r:Nat}(ha:g.cq[a]?=some id)(hd:dn id=n)(hr:(s.dS id).cY[n]?=some r)
  (GX:r=0∨r∈g.cq∨r∈g.eI):kX s g (jR dn id (n+1)) (m.iI (.sp a) n (s.jb g r)):=by
 have hic:=bx ha
 have Tb:g.cq.Nodup:=(cu.1 k.nd).1
 refine⟨c.dJ,?_,?_,c.dL,c.kS,fun x h1 h2=>?_,RM c hd hr GX,c.sz⟩
 ·show m.dC.modify a _=_
  rw [c.dC]
  apply cG
  intro j
  rw [dQ,bD,bD]
  cases hj:g.cq[j]? with
  |none=>rfl
  |some x =>
   show some _=some _
   congr 1
   by_cases haj:a=j
   ·subst haj
    rw [ha]at hj
    obtain rfl:=bt hj
    simp only [if_true]
    rw [hd,m7,MU hr]
   ·have iS:x≠id:=fun e=>by
     subst e
     exact haj ((jV (bp.1 ha).1 Tb).1 (ha.trans hj.symm))
    simp only [if_neg haj]
    rw [p8 iS]
 ·show m.blocks=_
  rw [c.blocks]
  refine cD fun x hx=>?_
  by_cases h0:x=0
  ·rw [if_pos h0,if_pos h0]
  ·obtain⟨i,hi⟩:=bT.1 hx
   rw [if_neg h0,if_neg h0,p8 (wl v (k.cp id hic) hi h0)]
 ·rw [p8 (fun e:x=id=>h1 (by rw [e];exact hic))]
  exact c.dn0 x h1 h2
theorem kX.alb {s:RS}(v:s.Inv){g:Gc}{dn:Nat→Nat}{m:MH}(c:kX s g dn m)(k:hU s g){id n r:Nat}(hl:id∈g.eI)(hd:dn id=n)(hr:(s.dS id).cY[n]?=some r)
  (GX:r=0∨r∈g.cq∨r∈g.eI):kX s g (jR dn id (n+1)) (m.iI (.sl (s.dS id).pl) n (s.jb g r)):=by
 obtain⟨h0,hs⟩:=k.ln id hl
 obtain⟨i,hi⟩:=bT.1 hs
 have za:(s.dS id).pl=i:=(v.sl i id hi h0).2.2.2
 refine⟨c.dJ,?_,?_,c.dL,c.kS,fun x h1 h2=>?_,RM c hd hr GX,c.sz⟩
 ·show m.dC=_
  rw [c.dC]
  exact cD fun x hx=>by rw [p8 (wl v (k.cp x hx) hi h0).symm]
 ·show m.blocks.modify _ _=_
  rw [za,c.blocks]
  apply cG
  intro j
  rw [dQ,bD,bD]
  cases hj:s.cK[j]? with
  |none=>rfl
  |some x =>
   show some _=some _
   congr 1
   by_cases zc:i=j
   ·subst zc
    rw [hi]at hj
    obtain rfl:=bt hj
    simp only [if_true,if_neg h0,dR]
    rw [hd,m7,MU hr]
   ·by_cases tF:x=0
    ·simp [zc,tF]
    ·have iS:x≠id:=fun e=>by
      subst e
      have:=(v.sl j x hj tF).2.2.2
      omega
     simp only [if_neg zc,if_neg tF]
     rw [p8 iS]
 ·rw [p8 (fun e:x=id=>h2 (by rw [e];exact hl))]
  exact c.dn0 x h1 h2
theorem CO(s:RS)(g:Gc)(l:LN)(r:Nat):s.eF g (l++[r])=s.gz (s.eF g l) r:=by unfold eF;rw [List.foldl_append];rfl
theorem BT {s:RS}{g:Gc}{r:Nat}:r=0∨r∈(s.gz g r).cq∨r∈(s.gz g r).eI:=by
 by_cases h:r=0∨r∈g.cq∨r∈g.eI
 ·rw [uT h];exact h
 ·cases hb:(s.dS r).Au with
  |true=>rw [yC h hb];exact .inr (.inr (bK _ (bM.2 rfl)))
  |false=>rw [tV h hb];exact .inr (.inl (bK _ (bM.2 rfl)))
def BE(s:RS)(g:Gc)(id:Nat):AG→Prop
 | .sp a=>g.cq[a]?=some id
 | .sl i=>id∈g.eI∧i=(s.dS id).pl
theorem BE.grow {s:RS}{g:Gc}{id:Nat}{t:AG}(h:BE s g id t)(r:Nat):BE s (s.gz g r) id t:=by
 cases t with
 |sp a =>
  obtain⟨l,hl⟩:=(s.uS g r).1
  show (s.gz g r).cq[a]?=some id
  rw [←hl,bL (bp.1 (show g.cq[a]?=some id from h)).1]
  exact h
 |sl i=>exact⟨(s.uS g r).2.subset h.1,h.2⟩
theorem BE.at {s:RS}(v:s.Inv){g:Gc}{dn:Nat→Nat}{m:MH}(c:kX s g dn m)(k:hU s g){id:Nat}{t:AG}(h:BE s g id t):m.at t=some (s.rj g (dn id) id):=by
 cases t with
 |sp a =>
  show m.dC[a]?=_
  rw [c.dC,bD,show g.cq[a]?=some id from h]
  rfl
 |sl i =>
  obtain⟨h1,rfl⟩:=h
  obtain⟨h0,hs⟩:=k.ln id h1
  obtain⟨j,hj⟩:=bT.1 hs
  have za:(s.dS id).pl=j:=(v.sl j id hj h0).2.2.2
  show (m.blocks[(s.dS id).pl]?).bind _=_
  rw [za,c.blocks,bD,hj]
  simp [h0]
theorem Qe(dn:Nat→Nat)(id a b:Nat):jR (jR dn id a) id b=jR dn id b:=by
 funext x
 by_cases hx:x=id
 ·subst hx;rw [m7,m7]
 ·rw [p8 hx,p8 hx,p8 hx]
theorem yH {s:RS}(v:s.Inv){g:Gc}{dn:Nat→Nat}{m:MH}(c:kX s g dn m)(k:hU s g){id:Nat}{t:AG}(ht:BE s g id t)(hh:s.da id)(hd:dn id=0):
  ∀n,n≤(s.dS id).cY.length→kX s (s.eF g ((s.dS id).cY.take n)) (jR dn id n) (pT m t n)∧hU s (s.eF g ((s.dS id).cY.take n))∧BE s (s.eF g ((s.dS id).cY.take n)) id t
 | 0,_=>by
  have e:jR dn id 0=dn:=by
   funext x
   by_cases hx:x=id
   ·subst hx;rw [m7,hd]
   ·exact p8 hx
  rw [e]
  exact⟨c,k,ht⟩
 |n+1,hn=>by
  obtain⟨c1,k1,t1⟩:=yH v c k ht hh hd n (by omega)
  obtain⟨r,hr⟩:∃r,(s.dS id).cY[n]?=some r:=⟨_,br (by omega)⟩
  have hrh:r=0∨s.da r:=v.rf id hh r (bx hr)
  have yL:=t1.at v c1 k1
  rw [m7]at yL
  have hg:=Br (g:=s.eF g ((s.dS id).cY.take n)) hr
  obtain⟨q1,q2⟩:=c1.EL v k1 hrh
  have k2:=k1.gz v hrh
  have t2:=t1.grow r
  have hs:(s.dS id).cY.take (n+1)=(s.dS id).cY.take n++[r]:=by rw [mY,hr];rfl
  rw [Ab m t n yL,hg,q1,hs,CO]
  have hu:jR dn id n id=n:=m7 dn id n
  refine⟨?_,k2,t2⟩
  cases t with
  |sp a =>
   have:=q2.ala v k2 (show (s.gz (s.eF g ((s.dS id).cY.take n)) r).cq[a]?=some id from t2) hu hr BT
   rw [Qe]at this
   exact this
  |sl i =>
   obtain⟨h1,rfl⟩:=t2
   have:=q2.alb v k2 h1 hu hr BT
   rw [Qe]at this
   exact this
theorem Vy {s:RS}(v:s.Inv){id:Nat}(h:s.da id):(s.dS id).pl<1048577:=by
 rcases v.At h with⟨hb,hs,h0⟩|⟨hb,hs⟩
 ·obtain⟨i,hi⟩:=bT.1 hs
  have za:(s.dS id).pl=i:=(v.sl i id hi h0).2.2.2
  have:=(bp.1 hi).1
  have:=v.Sp
  omega
 ·obtain⟨j,hj,hp⟩:=v.qQ hs
  have uc:s.fG (s.dG.take j)≤s.fG s.dG:=qR _ _ (v.VP.sublist (mX j _)) fun x hx=>dK hx
  have:=v.u1;have:=v.u2;have:=v.h2;have:=v.l2
  omega
theorem qi {s:RS}(v:s.Inv){id:Nat}(h:id=0∨s.da id):s.fk id<18446744073709551616:=by
 have ht:qO=9223372036854775808:=rfl
 by_cases h0:id=0
 ·subst h0;rw [iQ];omega
 ·have hh:=h.resolve_left h0
  have:=Vy v hh
  cases hb:(s.dS id).Au with
  |true=>rw [yA h0 hb];omega
  |false=>rw [oQ h0 hb];omega
theorem ES {s:RS}:∀(l:LN) (p id:Nat),s.gq l p id≤p+s.fG l
 | [],p,id=>cP _
 |x::l,p,id=>by
  show (if x=id then p else s.gq l (p+s.size x) id)≤p+(s.size x+s.fG l)
  split
  ·omega
  ·have:=ES (s:=s) l (p+s.size x) id
   omega
theorem SR {s:RS}(v:s.Inv){g:Gc}(k:hU s g){id:Nat}(h:id=0∨s.da id):s.jb g id<18446744073709551616:=by
 have ht:qO=9223372036854775808:=rfl
 unfold jb
 split
 ·omega
 ·rename_i h0
  have:=Vy v (h.resolve_left h0)
  split
  ·omega
  ·have h1:=ES (s:=s) g.cq 1 id
   have h2:=qR (s:=s) g.cq s.dG (cu.1 k.nd).1 k.cp
   have:=v.u1;have:=v.u2;have:=v.h2;have:=v.l2
   omega
theorem K7 {s:RS}(v:s.Inv){g:Gc}{dn:Nat→Nat}{m:MH}(c:kX s g dn m)(k:hU s g){id:Nat}{t:AG}(ht:BE s g id t)(hh:s.da id)(hd:dn id=0):ZA m t (s.enc id):=by
 have h0:=ht.at v c k
 rw [hd,Cp]at h0
 refine⟨h0,rfl,fun n hn=>?_⟩
 have hn:n<(s.dS id).cY.length:=by simpa [enc]using hn
 obtain⟨c1,k1,t1⟩:=yH v c k ht hh hd n (by omega)
 obtain⟨r,hr⟩:∃r,(s.dS id).cY[n]?=some r:=⟨_,br hn⟩
 have hrh:r=0∨s.da r:=v.rf id hh r (bx hr)
 have yL:=t1.at v c1 k1
 rw [m7]at yL
 refine⟨_,yL,rfl,by rw [ux];simp [enc],rfl,?_,?_,?_⟩
 ·rw [Br hr];exact qi v hrh
 ·rw [Br hr];exact c1.VQ v k1 hrh
 ·rw [Br hr,(c1.EL v k1 hrh).1]
  exact SR v (k1.gz v hrh) hrh
end RS
open Go.Proofs
def iV(h:Hp)(bR:Nat→io)(h':Hp)(cR:Nat→io):Prop:=h.size≤h'.size∧∀b,b<h.size→bR b=.out→cR b=.out∧h'[b]?=h[b]?
theorem pS.o {h h':Hp}{bR cR:Nat→io}(x:pS h bR h' cR):iV h bR h' cR:=⟨x.1,fun b hb ho=>⟨(x.2.1 b hb).trans ho,x.2.2 b hb ho⟩⟩
theorem iV.refl(h:Hp)(bR:Nat→io):iV h bR h bR:=(pS.refl h bR).o
theorem iV.trans {a b c:Hp}{ra rb rc:Nat→io}(x:iV a ra b rb)(y:iV b rb c rc):iV a ra c rc :=
 ⟨bP x.1 y.1,fun i hi ho=>by
  obtain⟨h1,h2⟩:=x.2 i hi ho
  obtain⟨h3,h4⟩:=y.2 i (bZ hi x.1) h1
  exact⟨h3,h4.trans h2⟩⟩
theorem iV.of {h h':Hp}{bR cR:Nat→io}{S:Nat→Prop}(k:bY S h h')(hS:∀b,S b→bR b≠.out)(hr:∀b,b<h.size→bR b=.out→cR b=.out):iV h bR h' cR :=
 ⟨k.1,fun b hb ho=>⟨hr b hb ho,k.2 b hb fun s=>hS b s ho⟩⟩
structure tq (h:Hp) (hb:Nat) (bR:Nat→io) (m:MH) (G:xd):Prop where
 rh:bR hb=.hd
 fresh:∀b,h.size≤b→bR b=.out
 bs:kM 1 h G.bs.a G.bs.n G.bs.c G.bb (G.jW.map N5)
 Ig:∀b,G.bb=some b→bR b=.bb
 ll:G.jW.length=m.blocks.length
 bl:∀i o L,m.blocks[i]?=some o→G.jW[i]?=some L→yW h bR i o L
 rs:kM 1 h G.rs.a G.rs.n G.rs.c G.rb (m.dL.map Value.bool)
 Hx:∀b,G.rb=some b→bR b=.rb
 gs:Hd 1 h G.gs.a G.gs.n G.gs.c G.gb (m.kS.map nv)
 Jl:∀b,G.gb=some b→bR b=.gb
 ts:kM 2 h G.ts.a G.ts.n G.ts.c G.tb (m.bC.flatMap pf)
 Ki:∀b,G.tb=some b→bR b=.tb
section
variable {h h':Hp} {hb:Nat} {bR cR:Nat→io} {m m':MH} {G G':xd}
theorem dP.rest(r:dP h hb bR m G):tq h hb bR m G:=⟨r.rh,r.fresh,r.bs,r.Ig,r.ll,r.bl,r.rs,r.Hx,r.gs,r.Jl,r.ts,r.Ki⟩
theorem tq.move(r:tq h hb bR m G){S:Nat→Prop}(k:bY S h h')(hS:∀b,S b→bR b=.dJ∨bR b=.dC∨bR b=.hd∨bR b=.out)
  (hr:∀b x,b<h.size→bR b=x→x≠.dJ→x≠.dC→x≠.out→cR b=x) (hf:∀b,h'.size≤b→cR b=.out):tq h' hb cR m G:=by
 have no:∀b y,bR b=y→y≠.dJ→y≠.dC→y≠.hd→y≠.out→¬S b:=fun b y e h1 h2 h3 h4 s=>by
  rcases hS b s with h|h|h|h
  ·exact h1 (e▸h)
  ·exact h2 (e▸h)
  ·exact h3 (e▸h)
  ·exact h4 (e▸h)
 have tr:∀b y,bR b=y→y≠.dJ→y≠.dC→y≠.out→cR b=y:=fun b y e h1 h2 h3=>by
  rcases eS b h.size with hl|hl
  ·exact hr b y hl e h1 h2 h3
  ·exact absurd (e▸r.fresh b hl) h3
 refine⟨tr _ _ r.rh nofun nofun nofun,hf,ir r.bs k fun b hb=>no _ _ (r.Ig b hb) nofun nofun nofun nofun,fun b hb=>tr _ _ (r.Ig b hb) nofun nofun nofun,r.ll,fun i o L h1 h2=>?_,
  ir r.rs k fun b hb=>no _ _ (r.Hx b hb) nofun nofun nofun nofun,fun b hb=>tr _ _ (r.Hx b hb) nofun nofun nofun,
  r.gs.gK k fun b hb=>no _ _ (r.Jl b hb) nofun nofun nofun nofun,fun b hb=>tr _ _ (r.Jl b hb) nofun nofun nofun,
  ir r.ts k fun b hb=>no _ _ (r.Ki b hb) nofun nofun nofun nofun,fun b hb=>tr _ _ (r.Ki b hb) nofun nofun nofun⟩
 have x0:=(r.bl i o L h1 h2).eG k fun b hb=>no _ _ hb nofun nofun nofun nofun
 cases o<;>cases L<;>first|exact x0|exact⟨x0.1,fun b hb=>tr _ _ (x0.2 b hb) nofun nofun nofun⟩
theorem tq.cast(r:tq h hb bR m G)(h1:m'.blocks=m.blocks)(h2:m'.dL=m.dL)(h3:m'.kS=m.kS)(h4:m'.bC=m.bC)(g1:G'.jW=G.jW)(g2:G'.bs=G.bs)(g3:G'.bb=G.bb)
  (g4:G'.rs=G.rs) (g5:G'.rb=G.rb) (g6:G'.gs=G.gs) (g7:G'.gb=G.gb) (g8:G'.ts=G.ts) (g9:G'.tb=G.tb):tq h hb bR m' G':=by
 refine⟨r.rh,r.fresh,?_,?_,?_,?_,?_,?_,?_,?_,?_,?_⟩
 ·rw [g1,g2,g3];exact r.bs
 ·rw [g3];exact r.Ig
 ·rw [g1,h1];exact r.ll
 ·rw [g1,h1];exact r.bl
 ·rw [g4,g5,h2];exact r.rs
 ·rw [g5];exact r.Hx
 ·rw [g6,g7,h3];exact r.gs
 ·rw [g7];exact r.Jl
 ·rw [g8,g9,h4];exact r.ts
 ·rw [g9];exact r.Ki
theorem tq.rep(r:tq h hb bR m G)(row:eM h hb (kB m G)) (dJ:Ar h G.Lh m.hz m.dJ) (nu:∀b,G.Lh.fp b→bR b=.dJ) (dC:Ar h G.Ls m.sz m.dC) (lN:∀b,G.Ls.fp b→bR b=.dC):dP h hb bR m G :=
 ⟨row,r.rh,r.fresh,dJ,nu,dC,lN,r.bs,r.Ig,r.ll,r.bl,r.rs,r.Hx,r.gs,r.Jl,r.ts,r.Ki⟩
theorem dP.adx(r:dP h hb bR m G){o:Nat}{v:Value}{jl:List (Bool × Nat)} (ho:o<(m.bC.flatMap pf).length) (hv:(m.bC.flatMap pf).set o v=jl.flatMap pf) :
  ∃b,G.ts.a=some (ad b)∧Go.Ev.gZ h ⟨b,o,none⟩∧dP (fy h ⟨b,o,none⟩ v) hb bR {m with bC:=jl} G∧pS h bR (fy h ⟨b,o,none⟩ v) bR:=by
 have hl:=r.ts.len
 obtain⟨b,xb,ha⟩:=sQ r.ts (by omega)
 have ts:=r.ts
 rw [xb]at ts
 obtain⟨h1,h2⟩:=ts.set (o:=o) ho v
 have k:bY (fun x=>x=b) h (fy h ⟨b,o,none⟩ v):=gf h o _ rfl
 have htb:=r.Ki b xb
 have p:=r.part (x:=.tb) k (fun x e=>.inl (e▸htb)) (cR:=bR) (fun _ _=>rfl) fun b hb=>r.fresh b (bP k.1 hb)
 refine⟨b,ha,h1,⟨bF k r.row (fun e=>by have:=r.rh;rw [e,htb]at this;cases this),p.rh,p.fresh,(p.dJ nofun).1,(p.dJ nofun).2,(p.dC nofun).1,(p.dC nofun).2,(p.bs nofun).1,(p.bs nofun).2,p.ll,fun i o L h1 h2=>p.bl i o L nofun h1 h2,
  (p.rs nofun).1,(p.rs nofun).2,(p.gs nofun).1,(p.gs nofun).2,?_,r.Ki⟩,pS.of (bR:=bR) k (fun x e=>by rw [e,htb];nofun) fun _ _=>rfl⟩
 rw [xb]
 show kM 2 _ _ _ _ _ (jl.flatMap pf)
 rw [←hv]
 exact h2
theorem qh:∀l:List (Bool × Nat),(l.flatMap pf).length=2*l.length
 | []=>rfl
 |x::l=>by rw [cJ,bG,qh l,dF];show 2+_=_;omega
theorem KL:∀(l:List (Bool × Nat)) (i:Nat) (x:Bool × Nat),l[i]?=some x→(l.flatMap pf)[i*2]?=some (vb x.1)∧(l.flatMap pf)[i*2+1]?=some (uv x.2)
 | [],_,_,h=>by simp at h
 |y::l,0,x,h=>by
  obtain rfl:y=x:=by simpa using h
  exact⟨rfl,rfl⟩
 |y::l,i+1,x,h=>by
  have:=KL l i x (by simpa using h)
  rw [cJ]
  show (Value.bool y.1::uv y.2::l.flatMap pf)[(i+1)*2]?=_∧(Value.bool y.1::uv y.2::l.flatMap pf)[(i+1)*2+1]?=_
  rw [show (i+1)*2=i*2+2 by omega,show i*2+2+1=(i*2+1)+2 by omega]
  exact this
theorem EF:∀(l:List (Bool × Nat)) (i:Nat) (x:Bool × Nat) (n:Nat),l[i]?=some x→(l.flatMap pf).set (i*2+1) (uv n)=(l.set i (x.1,n)).flatMap pf
 | [],_,_,_,h=>by simp at h
 |y::l,0,x,n,h=>by
  obtain rfl:y=x:=by simpa using h
  rfl
 |y::l,i+1,x,n,h=>by
  have:=EF l i x n (by simpa using h)
  rw [cJ,fg,cJ,←this]
  show (Value.bool y.1::uv y.2::l.flatMap pf).set ((i+1)*2+1) _=Value.bool y.1::uv y.2::_
  rw [show (i+1)*2+1=(i*2+1)+1+1 by omega,fg,fg]
  rfl
theorem EG:∀(l:List (Bool × Nat)) (i:Nat) (x:Bool × Nat) (b:Bool),l[i]?=some x→(l.flatMap pf).set (i*2) (vb b)=(l.set i (b,x.2)).flatMap pf
 | [],_,_,_,h=>by simp at h
 |y::l,0,x,n,h=>by
  obtain rfl:y=x:=by simpa using h
  rfl
 |y::l,i+1,x,n,h=>by
  have:=EG l i x n (by simpa using h)
  rw [cJ,fg,cJ,←this]
  show (Value.bool y.1::uv y.2::l.flatMap pf).set ((i+1)*2) _=Value.bool y.1::uv y.2::_
  rw [show (i+1)*2=i*2+1+1 by omega,fg,fg]
  rfl
theorem dP.Dy(r:dP h hb bR m G){i:Nat}{x:Bool × Nat}(hx:m.bC[i]?=some x):∃b,G.ts.a=some (ad b)∧cell h ((ad b).add (i*2))=some (vb x.1)∧cell h (((ad b).add (i*2)).add 1)=some (uv x.2)∧i<G.ts.n∧G.ts.n=m.bC.length:=by
 have hl:=r.ts.len
 rw [qh]at hl
 have hi:=(bp.1 hx).1
 obtain⟨b,xb,ha⟩:=sQ r.ts (by omega)
 have ts:=r.ts
 rw [xb]at ts
 obtain⟨e1,e2⟩:=KL _ _ _ hx
 refine⟨b,ha,?_,?_,by omega,by omega⟩
 ·rw [cm,ts.cell (by rw [qh];omega),e1]
 ·rw [cm,kD,ts.cell (by rw [qh];omega),e2]
theorem dP.NB(r:dP h hb bR m G):G.ts.n=m.bC.length:=by
 have hl:=r.ts.len
 rw [qh]at hl
 omega
theorem dP.agz(r:dP h hb bR m G):G.rs.n=m.dL.length:=by
 have hl:=r.rs.len
 rw [bA]at hl
 omega
theorem dP.M7(r:dP h hb bR m G):G.bs.n=m.blocks.length:=by
 have hl:=r.bs.len
 rw [bA,r.ll]at hl
 omega
theorem dP.aui(r:dP h hb bR m G):G.gs.n=m.kS.length:=by
 have hl:=r.gs.len
 rw [bA]at hl
 omega
theorem dP.IM(r:dP h hb bR m G){i:Nat}{x:Bool × Nat}(hx:m.bC[i]?=some x)(n:Nat):
  ∃b,G.ts.a=some (ad b)∧Go.Ev.gZ h (((ad b).add (i*2)).add 1)∧dP (fy h (((ad b).add (i*2)).add 1) (uv n)) hb bR {m with bC:=m.bC.set i (x.1,n)} G∧pS h bR (fy h (((ad b).add (i*2)).add 1) (uv n)) bR:=by
 have hi:=(bp.1 hx).1
 obtain⟨b,h1,h2,h3,h4⟩:=r.adx (by rw [qh];omega) (EF _ _ _ n hx)
 refine⟨b,h1,?_⟩
 rw [cm,kD]
 exact⟨h2,h3,h4⟩
theorem dP.Qv(r:dP h hb bR m G){i:Nat}{x:Bool × Nat}(hx:m.bC[i]?=some x)(u:Bool):
  ∃b,G.ts.a=some (ad b)∧Go.Ev.gZ h ((ad b).add (i*2))∧dP (fy h ((ad b).add (i*2)) (vb u)) hb bR {m with bC:=m.bC.set i (u,x.2)} G∧pS h bR (fy h ((ad b).add (i*2)) (vb u)) bR:=by
 have hi:=(bp.1 hx).1
 obtain⟨b,h1,h2,h3,h4⟩:=r.adx (by rw [qh];omega) (EG _ _ _ u hx)
 refine⟨b,h1,?_⟩
 rw [cm]
 exact⟨h2,h3,h4⟩
theorem dP.aaN(r:dP h hb bR m G){x:Nat}{l:LN}(hg:m.kS=x::l):
  dP (fy h ⟨hb,5,none⟩ (.slice (if G.gs.c=1 then G.gs.a else Option.map (fun x=>x.add (1*1)) G.gs.a) (G.gs.n-1) (G.gs.c-1))) hb bR {m with kS:=l}
   {G with gs:=⟨if G.gs.c=1 then G.gs.a else Option.map (fun x=>x.add (1*1)) G.gs.a,G.gs.n-1,G.gs.c-1⟩} ∧
  pS h bR (fy h ⟨hb,5,none⟩ (.slice (if G.gs.c=1 then G.gs.a else Option.map (fun x=>x.add (1*1)) G.gs.a) (G.gs.n-1) (G.gs.c-1))) bR:=by
 have k:bY (fun b=>b=hb) h (fy h ⟨hb,5,none⟩ (.slice (if G.gs.c=1 then G.gs.a else Option.map (fun x=>x.add (1*1)) G.gs.a) (G.gs.n-1) (G.gs.c-1))):=gf h 5 _ rfl
 have p:=r.part (x:=.gb) k (fun b e=>.inr (.inl (e▸r.rh))) (cR:=bR) (fun _ _=>rfl) fun b hb=>r.fresh b (bP k.1 hb)
 have gs:=r.gs
 rw [hg]at gs
 have gt:=gs.tail
 refine⟨⟨hG r.row 5 _,p.rh,p.fresh,(p.dJ nofun).1,(p.dJ nofun).2,(p.dC nofun).1,(p.dC nofun).2,(p.bs nofun).1,(p.bs nofun).2,p.ll,fun i o L h1 h2=>p.bl i o L nofun h1 h2,(p.rs nofun).1,(p.rs nofun).2,?_,r.Jl,(p.ts nofun).1,(p.ts nofun).2⟩,
  pS.of (bR:=bR) k (fun x e=>by rw [e,r.rh];nofun) fun _ _=>rfl⟩
 exact gt.gK k fun b e=>by intro e';have:=r.Jl b e;rw [e',r.rh]at this;cases this
theorem dP.ag0(r:dP h hb bR m G):dP (fy h ⟨hb,5,none⟩ (.slice none 0 0)) hb bR {m with kS:=[]} {G with gs:=⟨none,0,0⟩,gb:=none}∧pS h bR (fy h ⟨hb,5,none⟩ (.slice none 0 0)) bR:=by
 have k:bY (fun b=>b=hb) h (fy h ⟨hb,5,none⟩ (.slice none 0 0)):=gf h 5 _ rfl
 have p:=r.part (x:=.gb) k (fun b e=>.inr (.inl (e▸r.rh))) (cR:=bR) (fun _ _=>rfl) fun b hb=>r.fresh b (bP k.1 hb)
 exact⟨⟨hG r.row 5 _,p.rh,p.fresh,(p.dJ nofun).1,(p.dJ nofun).2,(p.dC nofun).1,(p.dC nofun).2,(p.bs nofun).1,(p.bs nofun).2,p.ll,fun i o L h1 h2=>p.bl i o L nofun h1 h2,(p.rs nofun).1,(p.rs nofun).2,IF 1 _,nofun,(p.ts nofun).1,(p.ts nofun).2⟩,
  pS.of (bR:=bR) k (fun x e=>by rw [e,r.rh];nofun) fun _ _=>rfl⟩
theorem dP.AV(r:dP h hb bR m G){i:Nat}{L:Option jt}(hL:G.jW[i]?=some L):∃b,G.bs.a=some (ad b)∧cell h ((ad b).add (i*1))=some (N5 L):=by
 have hl:=r.bs.len
 rw [bA]at hl
 have hi:=(bp.1 hL).1
 obtain⟨b,xb,ha⟩:=sQ r.bs (by omega)
 have bs:=r.bs
 rw [xb]at bs
 refine⟨b,ha,?_⟩
 rw [cm,cQ,bs.cell (by rw [bA];exact hi),bD,hL]
 rfl
theorem dP.YY(r:dP h hb bR m G){i:Nat}(hi:i<m.blocks.length):
  ∃b,G.bs.a=some (ad b)∧Go.Ev.gZ h ((ad b).add (i*1))∧dP (fy h ((ad b).add (i*1)) (vp none)) hb bR {m with blocks:=m.blocks.set i none} {G with jW:=G.jW.set i none}∧pS h bR (fy h ((ad b).add (i*1)) (vp none)) bR:=by
 have hl:=r.bs.len
 have AJ:=r.ll
 rw [bA]at hl
 obtain⟨b,xb,ha⟩:=sQ r.bs (by omega)
 have bs:=r.bs
 rw [xb]at bs
 obtain⟨h1,h2⟩:=bs.set (o:=i) (by rw [bA];omega) (vp none)
 refine⟨b,ha,?_⟩
 rw [cm,cQ]
 have k:bY (fun x=>x=b) h (fy h ⟨b,i,none⟩ (vp none)):=gf h i _ rfl
 have hbb:=r.Ig b xb
 have p:=r.part (x:=.bb) k (fun x e=>.inl (e▸hbb)) (cR:=bR) (fun _ _=>rfl) fun b hb=>r.fresh b (bP k.1 hb)
 refine⟨h1,⟨bF k r.row (fun e=>by have:=r.rh;rw [e,hbb]at this;cases this),p.rh,p.fresh,(p.dJ nofun).1,(p.dJ nofun).2,(p.dC nofun).1,(p.dC nofun).2,?_,r.Ig,by simp [AJ],fun j o L h1 h2=>?_,(p.rs nofun).1,(p.rs nofun).2,
  (p.gs nofun).1,(p.gs nofun).2,(p.ts nofun).1,(p.ts nofun).2⟩,pS.of (bR:=bR) k (fun x e=>by rw [e,hbb];nofun) fun _ _=>rfl⟩
 ·rw [xb]
  show kM 1 _ _ _ _ _ ((G.jW.set i none).map N5)
  rw [ig]
  exact h2
 ·have h1:(m.blocks.set i none)[j]?=some o:=h1
  have h2:(G.jW.set i none)[j]?=some L:=h2
  by_cases hj:j=i
  ·subst hj
   rw [cE hi]at h1
   rw [cE (by omega)]at h2
   obtain rfl:=bt h1
   obtain rfl:=bt h2
   trivial
  ·rw [dl (Ne.symm hj)]at h1 h2
   exact p.bl j o L nofun h1 h2
theorem dP.PJ(r:dP h hb bR m G){K:Hp→Prop}(hK:∀h',dP h' hb bR {m with dL:=m.dL.map fun _=>false} G→pS h bR h' bR→K h'):ai0 #[vb false] G.rs.a G.rs.n h K:=by
 have hl:=r.agz
 cases xb:G.rb with
 |none =>
  have rs:=r.rs
  rw [xb]at rs
  obtain⟨e1,e2,_⟩:=rs.nil rfl
  rw [e1]
  refine hK h ?_ (pS.refl h bR)
  have:m.dL=[]:=dA.1 (by omega)
  have e:({m with dL:=m.dL.map fun _=>false}:MH)=m:=by rw [this];cases m;simp only at this;subst this;rfl
  rw [e];exact r
 |some b =>
  have rs:=r.rs
  rw [xb]at rs
  obtain⟨ha,Tb,j,hr,hc⟩:=rs.row b rfl
  rw [ha]
  show wH h (ad b) (ja #[vb false] (G.rs.n*1)).toList 0∧K (o9 h (ad b) (ja #[vb false] (G.rs.n*1)).toList 0)
  rw [o6]
  rw [bA]at hc
  have xN:0+0+(List.replicate G.rs.n (Value.bool false)).length≤(m.dL.map Value.bool++j).length:=by simp;omega
  have kY:∀v∈List.replicate G.rs.n (Value.bool false),mj v=true:=fun v hv=>by rw [(gE.1 hv).2];rfl
  refine⟨uI _ h _ 0 0 hr xN kY,?_⟩
  have k:bY (fun x=>x=b) h (o9 h (ad b) (List.replicate G.rs.n (Value.bool false)) 0):=sV h 0 0 _ rfl
  have hrb:=r.Hx b xb
  have p:=r.part (x:=.rb) k (fun x e=>.inl (e▸hrb)) (cR:=bR) (fun _ _=>rfl) fun b hb=>r.fresh b (bP k.1 hb)
  refine hK _ ⟨bF k r.row (fun e=>by have:=r.rh;rw [e,hrb]at this;cases this),p.rh,p.fresh,(p.dJ nofun).1,(p.dJ nofun).2,(p.dC nofun).1,(p.dC nofun).2,(p.bs nofun).1,(p.bs nofun).2,p.ll,fun i o L h1 h2=>p.bl i o L nofun h1 h2,?_,r.Hx,
   (p.gs nofun).1,(p.gs nofun).2,(p.ts nofun).1,(p.ts nofun).2⟩ (pS.of (bR:=bR) k (fun x e=>by rw [e,hrb];nofun) fun _ _=>rfl)
  rw [xb]
  have e1:(m.dL.map fun _=>false).map Value.bool=List.replicate G.rs.n (Value.bool false):=by
   rw [fh,hl]
   apply cG
   intro i
   rw [bD,jU]
   by_cases hi:i<m.dL.length
   ·rw [if_pos hi,br hi];rfl
   ·rw [if_neg hi,bV (by omega)];rfl
  show kM 1 _ _ _ _ _ ((m.dL.map fun _=>false).map Value.bool)
  rw [e1]
  refine⟨by simp,nofun,fun b' e=>?_⟩
  obtain rfl:=bt e
  refine⟨ha,Tb,j,?_,by simp;omega⟩
  have:=uQ (List.replicate G.rs.n (Value.bool false)) h _ 0 0 hr xN
  have e2:B1 (m.dL.map Value.bool++j) (0+0) (List.replicate G.rs.n (Value.bool false))=List.replicate G.rs.n (Value.bool false)++j:=by
   unfold B1
   simp only [iF,tt,eU,fo,fq]
   rw [kP,jf (by simp;omega),bA,eU,hl,dD,tx]
  rw [e2]at this
  exact this
def aoy(bR:Nat→io)(b:Nat):io:=match bR b with | .dJ=>.dC | .dC=>.dJ|x=>x
theorem Ej {b:Nat}{x:io}(e:bR b=x)(h1:x≠.dJ)(h2:x≠.dC):aoy bR b=x:=by
 unfold aoy
 rw [e]
 cases x<;>first|rfl|exact absurd rfl h1|exact absurd rfl h2
theorem dP.swap(r:dP h hb bR m G):dP (fy (fy h ⟨hb,1,none⟩ (vp (sa G.Ls.pb))) ⟨hb,2,none⟩ (vp (sa G.Lh.pb))) hb (aoy bR) {m with dJ:=m.dC,hz:=m.sz,dC:=m.dJ,sz:=m.hz} {G with Lh:=G.Ls,Ls:=G.Lh} ∧
  iV h bR (fy (fy h ⟨hb,1,none⟩ (vp (sa G.Ls.pb))) ⟨hb,2,none⟩ (vp (sa G.Lh.pb))) (aoy bR):=by
 have k1:bY (fun b=>b=hb) h (fy h ⟨hb,1,none⟩ (vp (sa G.Ls.pb))):=gf h 1 _ rfl
 have k2:bY (fun b=>b=hb) (fy h ⟨hb,1,none⟩ (vp (sa G.Ls.pb))) (fy (fy h ⟨hb,1,none⟩ (vp (sa G.Ls.pb))) ⟨hb,2,none⟩ (vp (sa G.Lh.pb))):=gf _ 2 _ rfl
 have k:=k1.trans k2
 have oZ:=hG (hG r.row 1 (vp (sa G.Ls.pb))) 2 (vp (sa G.Lh.pb))
 have nhd:∀b x,bR b=x→x≠.hd→¬b=hb:=fun b x e hx s=>hx (e▸s▸r.rh)
 have q:tq _ hb (aoy bR) m G:=r.rest.move k (fun b e=>.inr (.inr (.inl (e▸r.rh)))) (cR:=aoy bR) (fun b x _ e h1 h2 _=>Ej e h1 h2) fun b hb=>Ej (r.fresh b (bP k.1 hb)) nofun nofun
 have q2:tq _ hb (aoy bR) {m with dJ:=m.dC,hz:=m.sz,dC:=m.dJ,sz:=m.hz} {G with Lh:=G.Ls,Ls:=G.Lh}:=q.cast rfl rfl rfl rfl rfl rfl rfl rfl rfl rfl rfl rfl rfl
 refine⟨q2.rep oZ (r.dC.eG k fun b hb=>nhd _ _ (r.lN b hb) nofun) (fun b hb=>?_) (r.dJ.eG k fun b hb=>nhd _ _ (r.nu b hb) nofun) (fun b hb=>?_),
  iV.of (bR:=bR) k (fun b e=>by rw [e,r.rh];nofun) fun b _ ho=>Ej ho nofun nofun⟩
 ·have:=r.lN b hb;unfold aoy;rw [this]
 ·have:=r.nu b hb;unfold aoy;rw [this]
end
namespace RS
def hZ(s:RS):Option Nat→Bool × Nat
 |some id=>(true,s.fk id)
 |none=>(false,0)
def dM(s:RS)(sp:List dg):MH :=
 {cM:=s.cM,hz:=s.dJ,dJ:=s.dG.map s.enc,sz:=s.dJ,dC:=sp,blocks:=s.cK.map fun id=>if id=0 then none else some (s.enc id),dL:=s.cK.map fun _=>false,kS:=[],
  dI:=s.dI,gU:=s.gU,gK:=s.gK,bC:=s.bC.map s.hZ,r5:=(s.bC.filter Option.isSome).length,r6:=s.PI,r7:=s.EJ,r8:=s.HL}
end RS
namespace RS
theorem N2(s:RS)(g:Gc)(id a b:Nat):s.gz {g with a:=a,b:=b} id={s.gz g id with a:=a,b:=b}:=by
 by_cases h:id=0∨id∈g.cq∨id∈g.eI
 ·rw [uT h,uT (g:={g with a:=a,b:=b}) h]
 ·cases hb:(s.dS id).Au with
  |true=>rw [yC h hb,yC (g:={g with a:=a,b:=b}) h hb]
  |false=>rw [tV h hb,tV (g:={g with a:=a,b:=b}) h hb]
theorem CN(s:RS):∀(dN:LN) (g:Gc) (a b:Nat),s.eF {g with a:=a,b:=b} dN={s.eF g dN with a:=a,b:=b}
 | [],_,_,_=>rfl
 |id::dN,g,a,b=>by
  show s.eF (s.gz {g with a:=a,b:=b} id) dN={s.eF (s.gz g id) dN with a:=a,b:=b}
  rw [N2,CN s dN]
theorem uU {s:RS}:∀(dN:LN) (g:Gc),∀id∈dN,id=0∨id∈(s.eF g dN).cq∨id∈(s.eF g dN).eI
 | [],_,_,h=>by cases h
 |x::dN,g,id,h=>by
  show id=0∨id∈(s.eF (s.gz g x) dN).cq∨id∈(s.eF (s.gz g x) dN).eI
  rcases ck.1 h with rfl|h
  ·have hp:=s.jx dN (s.gz g id)
   exact(BT (s:=s) (g:=g) (r:=id)).imp_right fun h=>h.imp (fun h=>hp.1.subset h) fun h=>hp.2.subset h
  ·exact uU dN (s.gz g x) id h
theorem EW {s:RS}(v:s.Inv){g g':Gc}(hp:g.cq <+: g'.cq){r:Nat}(hr:r=0∨r∈g.cq∨r∈g.eI)(hl:∀x∈g.eI,x≠0∧x∈s.cK):s.jb g' r=s.jb g r:=by
 unfold jb
 split
 ·rfl
 ·rename_i h0
  split
  ·rfl
  ·rename_i hb
   rcases hr with h|h|h
   ·exact absurd h h0
   ·obtain⟨t,ht⟩:=hp
    rw [←ht]
    exact lR g.cq t 1 r h
   ·obtain⟨h1,h2⟩:=hl r h
    obtain⟨k,hk⟩:=bT.1 h2
    exact absurd (v.sl k r hk h1).2.1 hb
theorem OF(s:RS)(g:Gc):g.cq <+: (s.kC g).cq∧g.eI <+: (s.kC g).eI:=by
 unfold kC
 split
 ·exact s.jx _ g
 ·split
  ·exact s.jx _ g
  ·exact⟨ie _,ie _⟩
theorem Fl(s:RS)(n:Nat):∀k,(s.jA n).cq <+: (s.jA (n+k)).cq∧(s.jA n).eI <+: (s.jA (n+k)).eI
 | 0=>⟨ie _,ie _⟩
 |k+1=>by
  have h1:=Fl s n k
  have h2:=s.OF (s.jA (n+k))
  exact⟨h1.1.trans h2.1,h1.2.trans h2.2⟩
def Fin(g:Gc):Prop:=g.a=g.cq.length∧g.b=g.eI.length
theorem Fin.step {s:RS}{g:Gc}(h:Fin g):s.kC g=g:=by
 unfold kC
 rw [h.1,bV (bH _),h.2,bV (bH _)]
theorem H4 {s:RS}{n:Nat}(h:Fin (s.jA n)):∀k,s.jA (n+k)=s.jA n
 | 0=>rfl
 |k+1=>by
  show s.kC (s.jA (n+k))=_
  rw [H4 h k,h.step]
theorem hU.len {s:RS}(v:s.Inv){g:Gc}(k:hU s g):g.cq.length+g.eI.length≤s.eB.length:=by
 have:=B6 (g.cq++g.eI) (List.range s.eB.length) k.nd fun x hx=>by
  rw [jQ]
  rcases bI.1 hx with hx|hx
  ·exact(v.sm x (k.cp x hx)).2.1
  ·obtain⟨h0,h1⟩:=k.ln x hx
   obtain⟨i,hi⟩:=bT.1 h1
   exact(v.sl i x hi h0).1
 rwa [bG,ul]at this
theorem hU.alV {s:RS}{g:Gc}(k:hU s g):g.cq.length≤s.dG.length∧g.eI.length≤s.cK.length :=
 ⟨B6 _ _ (cu.1 k.nd).1 k.cp,B6 _ _ (cu.1 k.nd).2.1 fun x hx=>(k.ln x hx).2⟩
theorem WQ {s:RS}(v:s.Inv){n:Nat}(h:Fin (s.jA n)) (hn:n=(s.jA n).a+(s.jA n).b):s.eC=s.jA n:=by
 have h1:=hU.len v (hU.at v n)
 have h2:n≤s.eB.length:=by
  have:=h.1;have:=h.2;omega
 obtain⟨k,hk⟩:=oX h2
 unfold eC
 rw [hk,H4 h]
theorem OH(s:RS):s.Cf.a=0∧s.Cf.b=0:=s.ls _ _
theorem Rd {s:RS}(v:s.Inv):∀n,Fin (s.jA n)∨(s.jA n).a+(s.jA n).b=n
 | 0=>.inr (by have:=s.OH;show s.Cf.a+s.Cf.b=0;omega)
 |n+1=>by
  have k:=hU.at v n
  rcases Rd v n with h|h
  ·exact .inl (by show Fin (s.kC (s.jA n));rw [h.step];exact h)
  ·show Fin (s.kC (s.jA n))∨(s.kC (s.jA n)).a+(s.kC (s.jA n)).b=n+1
   unfold kC
   split
   ·refine .inr ?_
    have:=(s.ls (s.dS ‹Nat›).cY (s.jA n)).2
    simp only [this]
    omega
   ·rename_i h1
    split
    ·refine .inr ?_
     have:=(s.ls (s.dS ‹Nat›).cY (s.jA n)).1
     simp only [this]
     omega
    ·rename_i h2
     have h1:=List.getElem?_eq_none_iff.1 h1
     have h2:=List.getElem?_eq_none_iff.1 h2
     exact .inl ⟨by have:=k.a;omega,by have:=k.b;omega⟩
theorem Ce {s:RS}(v:s.Inv):Fin s.eC:=by
 rcases Rd v s.eB.length with h|h
 ·exact h
 ·have k:=hU.at v s.eB.length
  have:=hU.len v k
  have:=k.a
  have:=k.b
  exact⟨by show (s.jA _).a=(s.jA _).cq.length;omega,by show (s.jA _).b=(s.jA _).eI.length;omega⟩
theorem hU.nA {s:RS}(v:s.Inv):hU s s.eC:=hU.at v _
def AH(s:RS)(g:Gc):Prop:=∀id,id∈g.cq.take g.a∨id∈g.eI.take g.b→∀r∈(s.dS id).cY,r=0∨r∈g.cq∨r∈g.eI
theorem oa {α:Type}{l l':List α}(h:l <+: l'){n:Nat}(hn:n≤l.length):l'.take n=l.take n:=by
 obtain⟨t,rfl⟩:=h
 rw [gB hn]
theorem iO {α:Type}{l:List α}{n:Nat}{x:α}(h:l[n]?=some x):l.take (n+1)=l.take n++[x]:=by rw [mY,h];rfl
theorem AH.step {s:RS}{g:Gc}(k:hU s g)(c:AH s g):AH s (s.kC g):=by
 have grow:∀(dN:LN) (r:Nat),r=0∨r∈g.cq∨r∈g.eI→r=0∨r∈(s.eF g dN).cq∨r∈(s.eF g dN).eI:=fun dN r h=>by
  have hp:=s.jx dN g
  exact h.imp_right fun h=>h.imp (fun h=>hp.1.subset h) fun h=>hp.2.subset h
 have ka:=k.a
 have kb:=k.b
 unfold kC
 split
 ·rename_i id iA
  intro x hx r hr
  have hp:=s.jx (s.dS id).cY g
  have LW:=s.ls (s.dS id).cY g
  have hx:x∈(s.eF g (s.dS id).cY).cq.take (g.a+1)∨x∈(s.eF g (s.dS id).cY).eI.take (s.eF g (s.dS id).cY).b:=hx
  show r=0∨r∈(s.eF g (s.dS id).cY).cq∨r∈(s.eF g (s.dS id).cY).eI
  have h1:=(bp.1 iA).1
  rw [oa hp.1 (by omega),iO iA,LW.2,oa hp.2 kb]at hx
  rcases hx with hx|hx
  ·rcases bI.1 hx with hx|hx
   ·exact grow _ r (c x (.inl hx) r hr)
   ·rw [bM.1 hx]at hr
    exact uU _ g r hr
  ·exact grow _ r (c x (.inr hx) r hr)
 ·split
  ·rename_i id iA
   intro x hx r hr
   have hp:=s.jx (s.dS id).cY g
   have LW:=s.ls (s.dS id).cY g
   have hx:x∈(s.eF g (s.dS id).cY).cq.take (s.eF g (s.dS id).cY).a∨x∈(s.eF g (s.dS id).cY).eI.take (g.b+1):=hx
   show r=0∨r∈(s.eF g (s.dS id).cY).cq∨r∈(s.eF g (s.dS id).cY).eI
   have h1:=(bp.1 iA).1
   rw [oa hp.2 (by omega),iO iA,LW.1,oa hp.1 ka]at hx
   rcases hx with hx|hx
   ·exact grow _ r (c x (.inl hx) r hr)
   ·rcases bI.1 hx with hx|hx
    ·exact grow _ r (c x (.inr hx) r hr)
    ·rw [bM.1 hx]at hr
     exact uU _ g r hr
  ·exact c
theorem AH.at {s:RS}(v:s.Inv):∀n,AH s (s.jA n)
 | 0=>by
  intro x hx
  have:=s.OH
  have hx:x∈s.Cf.cq.take s.Cf.a∨x∈s.Cf.eI.take s.Cf.b:=hx
  rw [this.1,this.2]at hx
  simp at hx
 |n+1=>(AH.at v n).step (hU.at v n)
theorem vX {s:RS}(v:s.Inv){id:Nat}(h:id∈s.eC.cq∨id∈s.eC.eI):∀r∈(s.dS id).cY,r=0∨r∈s.eC.cq∨r∈s.eC.eI:=by
 have f:=Ce v
 refine AH.at v s.eB.length id ?_
 show id∈s.eC.cq.take s.eC.a∨id∈s.eC.eI.take s.eC.b
 rw [f.1,f.2,dE,dE]
 exact h
theorem Ak {s:RS}{id:Nat}(h:some id∈s.bC):id=0∨id∈s.eC.cq∨id∈s.eC.eI:=by
 have hp:=s.Fl 0 s.eB.length
 rw [fo]at hp
 have:=uU (s:=s) (s.bC.filterMap (fun x=>x)) ⟨[],[],0,0⟩ id (ft.2 ⟨_,h,rfl⟩)
 exact this.imp_right fun h=>h.imp (fun h=>hp.1.subset h) fun h=>hp.2.subset h
end RS
namespace RS
section
variable {s:RS}
theorem Ct(s:RS):s.ci.dG=s.eC.cq:=rfl
theorem kL(s:RS):s.ci.cK=s.cK.map fun id=>if id∈s.eC.eI then id else 0:=rfl
theorem wP(s:RS):s.ci.eB=s.eB.mapIdx fun id o=>if id∈s.eC.cq then {o with pl:=s.gq s.eC.cq 1 id}else if id∈s.eC.eI then o else if id=0 then o else nW.no:=rfl
theorem px(s:RS):s.ci.eB.length=s.eB.length:=by rw [wP,List.length_mapIdx]
theorem Inv.kz(v:s.Inv){id:Nat}(h:s.da id):id<s.eB.length:=by
 rcases h with h|⟨h0,h⟩
 ·exact(v.sm id h).2.1
 ·obtain⟨i,hi⟩:=bT.1 h
  exact(v.sl i id hi h0).1
theorem ye(v:s.Inv){id:Nat}(h:id∈s.eC.cq∨id∈s.eC.eI):s.ci.dS id=if id∈s.eC.cq then {s.dS id with pl:=s.gq s.eC.cq 1 id}else if id∈s.eC.eI then s.dS id else nW.no:=by
 have k:=hU.nA v
 have hl:id<s.eB.length:=v.kz (k.da h)
 unfold dS
 rw [wP,bB,List.getElem?_mapIdx,bB,br hl]
 by_cases h1:id∈s.eC.cq
 ·simp only [h1,if_true];rfl
 ·have h2:=h.resolve_left h1
  simp only [h1,h2,if_true,if_false];rfl
theorem VJ(v:s.Inv){id:Nat}(h:id∈s.eC.eI):id∉s.eC.cq:=fun h'=>by
 have k:=hU.nA v
 exact(cu.1 k.nd).2.2 id h' id h rfl
theorem mU(v:s.Inv){id:Nat}(h:id∈s.eC.cq):s.ci.dS id={s.dS id with pl:=s.gq s.eC.cq 1 id}:=by rw [ye v (.inl h),if_pos h]
theorem mE(v:s.Inv){id:Nat}(h:id∈s.eC.eI):s.ci.dS id=s.dS id:=by rw [ye v (.inr h),if_neg (VJ v h),if_pos h]
theorem rE(v:s.Inv){id:Nat}(h:id∈s.eC.cq∨id∈s.eC.eI):s.ci.size id=s.size id:=by
 unfold size
 rcases h with h|h
 ·rw [mU v h];rfl
 ·rw [mE v h]
theorem mF(v:s.Inv){id:Nat}(h:id∈s.eC.cq∨id∈s.eC.eI):(s.ci.dS id).kind=(s.dS id).kind∧(s.ci.dS id).cY=(s.dS id).cY∧(s.ci.dS id).cN=(s.dS id).cN∧(s.ci.dS id).Au=(s.dS id).Au:=by
 rcases h with h|h
 ·rw [mU v h];exact⟨rfl,rfl,rfl,rfl⟩
 ·rw [mE v h];exact⟨rfl,rfl,rfl,rfl⟩
theorem yd(v:s.Inv){id:Nat}(h:id=0∨id∈s.eC.cq∨id∈s.eC.eI):s.ci.fk id=s.jb s.eC id:=by
 have k:=hU.nA v
 unfold fk jb
 by_cases h0:id=0
 ·rw [if_pos h0,if_pos h0]
 ·rw [if_neg h0,if_neg h0]
  rcases h.resolve_left h0 with h|h
  ·have hb:=(v.sm id (k.cp id h)).2.2.1
   rw [mU v h]
   simp only [hb,dy,if_false]
  ·obtain⟨_,hs⟩:=k.ln id h
   obtain⟨i,hi⟩:=bT.1 hs
   have hb:=(v.sl i id hi h0).2.1
   rw [mE v h]
   simp only [hb,if_true]
theorem yf(v:s.Inv){id:Nat}(h:id∈s.eC.cq∨id∈s.eC.eI):s.ci.enc id=s.rj s.eC (s.dS id).cY.length id:=by
 obtain⟨h1,h2,h3,h4⟩:=mF v h
 unfold enc rj
 rw [h1,h2,h3,dE,gv,kI,eV]
 congr 1
 exact cD fun r hr=>yd v (vX v h r hr)
theorem lH {s t:RS}:∀(l:LN) (p id:Nat),(∀x∈l,t.size x=s.size x)→t.gq l p id=s.gq l p id
 | [],_,_,_=>rfl
 |x::l,p,id,h=>by
  show (if x=id then p else t.gq l (p+t.size x) id)=if x=id then p else s.gq l (p+s.size x) id
  rw [h x (bQ ..),lH l _ id fun y hy=>h y (bJ _ hy)]
theorem oN {s t:RS}{l:LN}(h:∀x∈l,t.size x=s.size x):t.fG l=s.fG l:=by
 unfold fG
 rw [cD h]
theorem wO(s:RS){i id:Nat}(h:s.ci.cK[i]?=some id)(h0:id≠0):s.cK[i]?=some id∧id∈s.eC.eI:=by
 rw [kL,bD]at h
 cases hx:s.cK[i]? with
 |none=>rw [hx]at h;cases h
 |some x =>
  rw [hx]at h
  have h:(if x∈s.eC.eI then x else 0)=id:=bt h
  by_cases hl:x∈s.eC.eI
  ·rw [if_pos hl]at h;subst h;exact⟨rfl,hl⟩
  ·rw [if_neg hl]at h;exact absurd h.symm h0
theorem mG(v:s.Inv){id:Nat}:s.ci.da id↔id∈s.eC.cq∨id∈s.eC.eI:=by
 have k:=hU.nA v
 constructor
 ·rintro(h|⟨h0,h⟩)
  ·exact .inl h
  ·obtain⟨i,hi⟩:=bT.1 h
   exact .inr (s.wO hi h0).2
 ·rintro(h|h)
  ·exact .inl h
  ·obtain⟨h0,hs⟩:=k.ln id h
   refine .inr ⟨h0,?_⟩
   rw [kL]
   exact cy.2 ⟨id,hs,by rw [if_pos h]⟩
theorem El {α:Type}{f g:α→Nat}:∀ {l:List α},(∀x∈l,f x≤g x)→(l.map f).sum≤(l.map g).sum
 | [],_=>bH _
 |x::l,h=>by
  have h1:=h x (bQ ..)
  have h2:=El (l:=l) fun y hy=>h y (bJ _ hy)
  simp only [cU,f8]
  omega
theorem qw(v:s.Inv):s.ci.dI≤s.dI:=by
 have k:=hU.nA v
 rw [v.lg]
 refine El fun x hx=>?_
 by_cases h:x∈s.eC.eI
 ·rw [if_pos h,if_neg (k.ln x h).1];exact bH _
 ·rw [if_neg h];exact cP _
theorem wN(v:s.Inv):s.ci.cZ≤s.cZ:=by
 have k:=hU.nA v
 rw [v.u1]
 show 1+s.fG s.eC.cq≤_
 have:=qR (s:=s) s.eC.cq s.dG (cu.1 k.nd).1 k.cp
 omega
theorem Inv.ci(v:s.Inv):s.ci.Inv:=by
 have k:=hU.nA v
 have vF:∀x∈s.eC.cq,s.ci.size x=s.size x:=fun x hx=>rE v (.inl hx)
 have hu:=wN v
 have hlg:=qw v
 have Jf:=(cu.1 k.nd).1
 have i1:=v.u2
 have i2:=v.h2
 refine⟨v.l1,v.l2,v.h1,?_,?_,?_,?_,?_,v.rl,Jf,?_,?_,?_,?_,?_,by rw [px];exact v.ob,by have:=v.l2;show s.ci.dI≤1048576;omega,cP _⟩
 ·show 2*s.dJ+s.ci.dI≤s.cM;omega
 ·show 1+s.fG s.eC.cq=1+s.ci.fG s.eC.cq
  rw [oN vF]
 ·show s.ci.cZ≤s.dJ;omega
 ·rw [kL,fh]
  show (s.cK.map _).sum=_
  congr 1
  refine cD fun x hx=>?_
  show _=if(if x∈s.eC.eI then x else 0)=0 then 0 else s.ci.size (if x∈s.eC.eI then x else 0)+1
  by_cases h:x∈s.eC.eI
  ·simp only [if_pos h]
   rw [if_neg (k.ln x h).1,rE v (.inr h)]
  ·simp only [if_neg h,if_true]
 ·rw [kL,bA];exact v.Sp
 ·intro id iA
  obtain⟨h1,h2,h3,h4,h5⟩:=v.sm id (k.cp id iA)
  refine⟨h1,by rw [px];exact h2,by rw [(mF v (.inl iA)).2.2.2];exact h3,by rw [vF id iA];exact h4,?_⟩
  rw [mU v iA,Ct,lH _ _ _ vF]
 ·intro i id hi h0
  obtain⟨h1,h2⟩:=s.wO hi h0
  obtain⟨h3,h4,h5,h6⟩:=v.sl i id h1 h0
  exact⟨by rw [px];exact h3,by rw [mE v h2];exact h4,by rw [rE v (.inr h2)];exact h5,by rw [mE v h2];exact h6⟩
 ·intro id iA r hr
  rw [mG v]at iA
  rw [(mF v iA).2.1]at hr
  exact(vX v iA r hr).imp_right (mG v).2
 ·intro id iA
  exact(Ak (s:=s) iA).imp_right (mG v).2
 ·intro id iA
  rw [mG v]at iA
  obtain⟨e1,e2,e3,_⟩:=mF v iA
  rw [e1,e2,e3]
  exact v.NK id (k.da iA)
end
end RS
structure Rest (m m':MH):Prop where
 cM:m'.cM=m.cM
 hz:m'.hz=m.hz
 sz:m'.sz=m.sz
 dI:m'.dI=m.dI
 gU:m'.gU=m.gU
 gK:m'.gK=m.gK
 bC:m'.bC=m.bC
 r5:m'.r5=m.r5
 r6:m'.r6=m.r6
 r7:m'.r7=m.r7
 r8:m'.r8=m.r8
theorem Rest.refl(m:MH):Rest m m:=⟨rfl,rfl,rfl,rfl,rfl,rfl,rfl,rfl,rfl,rfl,rfl⟩
theorem Rest.trans {a b c:MH}(x:Rest a b)(y:Rest b c):Rest a c :=
 ⟨y.1.trans x.1,y.2.trans x.2,y.3.trans x.3,y.4.trans x.4,y.5.trans x.5,y.6.trans x.6,y.7.trans x.7,y.8.trans x.8,y.9.trans x.9,y.10.trans x.10,y.11.trans x.11⟩
theorem Rest.U0 {m m':MH}(x:Rest m m')(l:List (Bool × Nat)):Rest {m with bC:=l} {m' with bC:=l}:=⟨x.1,x.2,x.3,x.4,x.5,x.6,rfl,x.8,x.9,x.10,x.11⟩
theorem xG(m:MH)(r:Nat):Rest m (gC m r).1:=by
 unfold gC
 split
 ·exact Rest.refl m
 ·split
  ·split
   ·exact Rest.refl m
   ·exact⟨rfl,rfl,rfl,rfl,rfl,rfl,rfl,rfl,rfl,rfl,rfl⟩
  ·split
   ·split
    ·exact Rest.refl m
    ·exact⟨rfl,rfl,rfl,rfl,rfl,rfl,rfl,rfl,rfl,rfl,rfl⟩
   ·exact Rest.refl m
theorem Ss(m:MH)(t:AG)(j v:Nat):Rest m (m.iI t j v):=by
 cases t<;>exact⟨rfl,rfl,rfl,rfl,rfl,rfl,rfl,rfl,rfl,rfl,rfl⟩
theorem Ac(m:MH)(t:AG):∀n,Rest m (pT m t n)
 | 0=>Rest.refl m
 |n+1=>by
  have h:=Ac m t n
  show Rest m (match(pT m t n).at t with|some o=>_|none=>_)
  split
  ·exact(h.trans (xG _ _)).trans (Ss _ _ _ _)
  ·exact h
theorem dP.num {h:Hp}{hb:Nat}{bR:Nat→io}{m m':MH}{G:xd}(r:dP h hb bR m G){a:Addr}{i:Nat}{v:Value}(ha:a=⟨hb,i,none⟩)(hi:i<19)(hc:(kB m G).set i v=kB m' G) (h1:m'.hz=m.hz) (h2:m'.dJ=m.dJ)
  (h3:m'.sz=m.sz) (h4:m'.dC=m.dC) (h5:m'.blocks=m.blocks) (h6:m'.dL=m.dL) (h7:m'.kS=m.kS) (h8:m'.bC=m.bC) {K:Hp→Prop} (hK:∀h',dP h' hb bR m' G→pS h bR h' bR→K h') :
  Go.Ev.gZ h a∧gi (fy h a v) fun h'=>K h':=by
 subst ha
 exact⟨r.gZ hi,hK _ (r.Vj hc h1 h2 h3 h4 h5 h6 h7 h8) (pS.of (bR:=bR) (gf h i v (S:=fun b=>b=hb) rfl) (fun b e=>by rw [e,r.rh];nofun) fun _ _=>rfl)⟩
namespace RS
section
variable {s:RS}
theorem YR(v:s.Inv){id:Nat}(h:s.da id):(s.enc id).Ok:=by
 obtain⟨h1,h2,h3,h4,h5⟩:=v.NK id h
 refine⟨h1,h2,by simpa [enc]using h3,h4,fun x hx=>?_,nofun⟩
 rcases bI.1 hx with hx|hx
 ·obtain⟨r,hr,rfl⟩:=cy.1 hx
  exact qi v (v.rf id h r hr)
 ·exact h5 x hx
theorem kX.begin(s:RS):kX s ⟨[],[],0,0⟩ (fun _=>0) (s.dM []):=by
 refine⟨?_,rfl,?_,?_,rfl,fun _ _ _=>rfl,fun id r hr=>by simp at hr,rfl⟩
 ·exact cD fun id _=>by simp only [qD,if_false];rfl
 ·exact cD fun id _=>by simp only [Cp]
 ·exact cD fun id _=>by simp
theorem kX.bC {g:Gc}{dn:Nat→Nat}{m:MH}(c:kX s g dn m)(l:List (Bool × Nat)):kX s g dn {m with bC:=l}:=⟨c.dJ,c.dC,c.blocks,c.dL,c.kS,c.dn0,c.dnr,c.sz⟩
def vr(s:RS)(g:Gc)(id:Nat):Nat:=if id∈g.cq.take g.a∨id∈g.eI.take g.b then(s.dS id).cY.length else 0
def gR(s:RS)(i:Nat):Gc:=s.eF ⟨[],[],0,0⟩ ((s.bC.take i).filterMap id)
theorem WX(s:RS):s.gR s.bC.length=s.Cf:=by unfold gR;rw [dE];rfl
theorem Re {i id:Nat}(h:s.bC[i]?=some (some id)):s.gR (i+1)=s.gz (s.gR i) id:=by
 unfold gR
 rw [iO h,jv]
 show s.eF _ (_++[id])=_
 rw [CO]
theorem Rf {i:Nat}(h:s.bC[i]?=some none):s.gR (i+1)=s.gR i:=by
 unfold gR
 rw [iO h,jv]
 show s.eF _ (_++[])=_
 rw [eV]
theorem anv(v:s.Inv)(i:Nat):hU s (s.gR i):=by
 refine hU.eF v ⟨by simp,nofun,nofun,bH _,bH _⟩ fun id iA=>?_
 obtain⟨o,ho,e⟩:=ft.1 iA
 have e:o=some id:=e
 subst e
 exact v.rt id (dK ho)
def Hy(s:RS)(g:Gc):Option Nat→Bool × Nat
 |some id=>(true,s.jb g id)
 |none=>(false,0)
def jm(s:RS)(g:Gc)(i:Nat):List (Bool × Nat):=(s.bC.take i).map (s.Hy g)++(s.bC.drop i).map s.hZ
theorem xC {g:Gc}{i:Nat}{x:Option Nat}(h:s.bC[i]?=some x):(s.jm g i)[i]?=some (s.hZ x):=by
 have hi:=(bp.1 h).1
 unfold jm
 rw [bN (by simp;omega),bD,fi]
 have:i+(i-((s.bC.take i).map (s.Hy g)).length)=i:=by simp;omega
 rw [this,h];rfl
theorem A4 {g:Gc}{i:Nat}{x:Option Nat}(h:s.bC[i]?=some x):s.jm g (i+1)=(s.jm g i).set i (s.Hy g x):=by
 obtain⟨hi,he⟩:=bp.1 h
 unfold jm
 rw [d8 hi,he,iO h,cx,gp _ _ (by simp;omega)]
 have:i-((s.bC.take i).map (s.Hy g)).length=0:=by simp;omega
 rw [this]
 simp
theorem GH {g g':Gc}{i:Nat}(h:∀id,some id∈s.bC.take i→s.jb g' id=s.jb g id):s.jm g' i=s.jm g i:=by
 unfold jm
 congr 1
 refine cD fun x hx=>?_
 cases x with
 |none=>rfl
 |some id=>show (true,_)=(true,_);rw [h id hx]
theorem xv {α:Type}{l:List α}{i:Nat}{x:α}(h:l[i]?=some x):l.set i x=l:=by
 apply cG
 intro j
 by_cases hj:i=j
 ·subst hj;rw [cE (bp.1 h).1,h]
 ·rw [dl hj]
theorem aep {i id:Nat}(h:some id∈s.bC.take i):id=0∨id∈(s.gR i).cq∨id∈(s.gR i).eI :=
 uU _ _ id (ft.2 ⟨some id,h,rfl⟩)
theorem kX.Us {g:Gc}{dn:Nat→Nat}{m:MH}(c:kX s g dn m)(n:Nat):kX s {g with a:=n} dn m:=⟨c.dJ,c.dC,c.blocks,c.dL,c.kS,c.dn0,c.dnr,c.sz⟩
theorem kX.pop {g:Gc}{dn:Nat→Nat}{m:MH}(c:kX s g dn m){l:LN}(h:l=(g.eI.drop (g.b+1)).map fun id=>(s.dS id).pl):kX s {g with b:=g.b+1} dn {m with kS:=l} :=
 ⟨c.dJ,c.dC,c.blocks,c.dL,h,c.dn0,c.dnr,c.sz⟩
theorem kX.arJ {g:Gc}{dn:Nat→Nat}{m:MH}(c:kX s g dn m)(i:Nat):pos m.dC i=1+s.fG (g.cq.take i):=by
 rw [c.dC];exact yD (fun id=>s.Cq g (dn id) id) _ _
theorem PA(v:s.Inv){g:Gc}(k:hU s g){id:Nat}(h:g.cq[g.a]?=some id):s.vr g id=0∧s.vr {s.eF g (s.dS id).cY with a:=g.a+1}=jR (s.vr g) id (s.dS id).cY.length:=by
 have hp:=s.jx (s.dS id).cY g
 have LW:=s.ls (s.dS id).cY g
 have hic:=bx h
 have hl:=(bp.1 h).1
 have hn:id∉g.cq.take g.a:=fun hm=>by
  obtain⟨j,hj⟩:=bT.1 hm
  rw [gF]at hj
  split at hj
  ·have:=(jV (bp.1 hj).1 (cu.1 k.nd).1).1 (hj.trans h.symm)
   omega
  ·cases hj
 have Ud:id∉g.eI.take g.b:=fun hm=>(cu.1 k.nd).2.2 id hic id (dK hm) rfl
 refine⟨by unfold vr;rw [if_neg (by simp [hn,Ud])],?_⟩
 funext x
 show (if x∈(s.eF g (s.dS id).cY).cq.take (g.a+1)∨x∈(s.eF g (s.dS id).cY).eI.take (s.eF g (s.dS id).cY).b then(s.dS x).cY.length else 0)=_
 rw [oa hp.1 (by omega),iO h,LW.2,oa hp.2 k.b]
 by_cases hx:x=id
 ·subst hx
  rw [m7,if_pos (.inl (bK _ (bM.2 rfl)))]
 ·rw [p8 hx]
  unfold vr
  simp only [bI,bM,hx,or_false]
theorem Y0(v:s.Inv){g:Gc}(k:hU s g){id:Nat}(h:g.eI[g.b]?=some id):s.vr g id=0∧s.vr {s.eF g (s.dS id).cY with b:=g.b+1}=jR (s.vr g) id (s.dS id).cY.length:=by
 have hp:=s.jx (s.dS id).cY g
 have LW:=s.ls (s.dS id).cY g
 have hic:=bx h
 have hl:=(bp.1 h).1
 have hn:id∉g.eI.take g.b:=fun hm=>by
  obtain⟨j,hj⟩:=bT.1 hm
  rw [gF]at hj
  split at hj
  ·have:=(jV (bp.1 hj).1 (cu.1 k.nd).2.1).1 (hj.trans h.symm)
   omega
  ·cases hj
 have Ud:id∉g.cq.take g.a:=fun hm=>(cu.1 k.nd).2.2 id (dK hm) id hic rfl
 refine⟨by unfold vr;rw [if_neg (by simp [hn,Ud])],?_⟩
 funext x
 show (if x∈(s.eF g (s.dS id).cY).cq.take (s.eF g (s.dS id).cY).a∨x∈(s.eF g (s.dS id).cY).eI.take (g.b+1)then(s.dS x).cY.length else 0)=_
 rw [oa hp.2 (by omega),iO h,LW.1,oa hp.1 k.a]
 by_cases hx:x=id
 ·subst hx
  rw [m7,if_pos (.inr (bK _ (bM.2 rfl)))]
 ·rw [p8 hx]
  unfold vr
  simp only [bI,bM,hx,or_false]
theorem MW {g:Gc}(f:Fin g){id:Nat}(h:id∈g.cq∨id∈g.eI):s.vr g id=(s.dS id).cY.length:=by
 unfold vr
 rw [f.1,f.2,dE,dE,if_pos h]
theorem Jm {g:Gc}{id:Nat}(h:g.cq[g.a]?=some id):s.kC g={s.eF g (s.dS id).cY with a:=g.a+1}:=by unfold kC;rw [h]
theorem OG {g:Gc}{id:Nat}(h1:g.cq[g.a]?=none)(h:g.eI[g.b]?=some id):s.kC g={s.eF g (s.dS id).cY with b:=g.b+1}:=by unfold kC;rw [h1,h]
theorem vK(s:RS)(l:LN)(n:Nat):s.fG (l.take n)≤s.fG l:=by
 unfold fG
 have:l=l.take n++l.drop n:=(eZ n l).symm
 conv=>rhs;rw [this]
 rw [cx,iG]
 omega
theorem sK(s:RS)(l:LN)(x:Nat):s.fG (l++[x])=s.fG l+s.size x:=by unfold fG;simp
end
end RS
namespace RS
theorem IQ(s:RS)(dN:LN)(g:Gc)(n:Nat):s.eF {g with b:=n} dN={s.eF g dN with b:=n}:=by
 have h:=s.CN dN g g.a n
 have e:({s.eF g dN with a:=g.a,b:=n}:Gc)={s.eF g dN with b:=n}:=by rw [←(s.ls dN g).1]
 exact h.trans e
end RS
section
variable {h:Hp} {hb:Nat} {bR:Nat→io} {m:MH} {G:xd} {s:RS}
theorem dP.Lj(r:dP h hb bR m G){i:Nat}{o:dg}(ho:m.blocks[i]?=some (some o)):∃L,G.jW[i]?=some (some L):=by
 have hi:=(bp.1 ho).1
 have hl:=r.ll
 have hx:G.jW[i]?=some G.jW[i]:=br (by omega)
 have hb:=r.bl i _ _ ho hx
 cases hL:G.jW[i]with
 |none=>rw [hL]at hb;exact hb.elim
 |some L=>rw [hL]at hx;exact⟨L,hx⟩
theorem dP.arK(r:dP h hb bR m G){x:Nat}{l:LN}(hg:m.kS=x::l){K:Hp→Prop}(hK:∀h' G',dP h' hb bR {m with kS:=l} G'→pS h bR h' bR→K h') :
  Go.Ev.gZ h ((ad hb).add 5)∧gi (fy h ((ad hb).add 5) (.slice (if G.gs.c=(1:Int).toNat then G.gs.a else Option.map (fun x=>x.add ((1:Int).toNat*1)) G.gs.a) (G.gs.n-(1:Int).toNat) (G.gs.c-(1:Int).toNat))) fun h'=>K h':=by
 obtain⟨r1,x1⟩:=r.aaN hg
 rw [cm]
 exact⟨r.gZ (by omega),hK _ _ r1 x1⟩
theorem Rest.kS(m:MH)(l:LN):Rest m {m with kS:=l}:=⟨rfl,rfl,rfl,rfl,rfl,rfl,rfl,rfl,rfl,rfl,rfl⟩
abbrev au6(R:RP)(hb:Nat)(n:Int)(h:Hp):Prop:=dO (kJ PG fN Ad (sub [1,0,1,0,0] (bd Tryz.f70))) (dW PG fN Ad [1,0,1,0] (bd Tryz.f70) [] (eJ PG Tryz.f70 [] R)) [(0,vp (sa hb)),(15,vi n),(16,vi 0)] 192 h
abbrev aoX(R:RP)(hb:Nat)(h:Hp):Prop:=dO (kJ PG fN Ad (sub [1,1,1,0,0,0] (bd Tryz.f70))) (dW PG fN Ad [1,1,1,0,0] (bd Tryz.f70) [] (eJ PG Tryz.f70 [] R)) [(0,vp (sa hb)),(3,vi 1)] 192 h
theorem Ha(v:s.Inv)(rp:dP h hb bR (s.dM []) G) {R:RP}
  (hR:∀h' cR G' m',dP h' hb cR m' G'→pS h bR h' cR→RS.kX s s.Cf (fun _=>0) m'→Rest {s.dM []with bC:=s.jm s.Cf s.bC.length} m'→aoX R hb h') :
  au6 R hb (s.bC.length:Nat) h:=by
 have HU:=v.rl
 refine OS (fun q s0 qS wJ h'=>∃(i:Nat) (cR:Nat→io) (G':xd) (m':MH),i≤s.bC.length∧q=s.bC.length-i∧s0=some (ad hb)∧qS=(s.bC.length:Int)∧wJ=(i:Int)∧dP h' hb cR m' G'∧pS h bR h' cR ∧
  RS.kX s (s.gR i) (fun _=>0) m'∧Rest {s.dM []with bC:=s.jm (s.gR i) i} m') s.bC.length
  ⟨0,bR,G,s.dM [],cP _,rfl,rfl,rfl,rfl,rp,pS.refl h bR,RS.kX.begin s,⟨rfl,rfl,rfl,rfl,rfl,rfl,by simp [RS.jm,RS.dM],rfl,rfl,rfl,rfl⟩⟩ ?_
 rintro q s0 qS wJ g h1 ⟨i,tT,G1,m1,hi,rfl,rfl,rfl,rfl,ng,x1,c1,e1⟩
 unfold W9
 have hn:=ng.NB
 have Wy:m1.bC.length=s.bC.length:=by
  rw [e1.bC]
  show (s.jm (s.gR i) i).length=_
  simp [RS.jm];omega
 have c9:cell h1 ((ad hb).add 9)=some (.slice G1.ts.a G1.ts.n G1.ts.c):=(ng.c 9).trans rfl
 refine ca (fun fE=>?_) fun o5=>?_
 ·have fE:i<s.bC.length:=by omega
  obtain⟨x,hx⟩:∃x,s.bC[i]?=some x:=⟨_,br fE⟩
  have T9:m1.bC[i]?=some (s.hZ x):=by rw [e1.bC];exact RS.xC hx
  obtain⟨b,ha,k1,k2,_,_⟩:=ng.Dy T9
  have cb:(0:Int)≤(i:Int)∧(i:Int)<(G1.ts.n:Int):=by omega
  refine bw ⟨G1.ts,c9,cb,cW ha ⟨(s.hZ x).1,by rw [bu];exact k1,?_⟩⟩
  cases x with
  |none =>
   refine cj rfl ?_
   unfold Ro
   have e4:s.jm (s.gR i) (i+1)=s.jm (s.gR i) i:=(RS.A4 hx).trans (RS.xv (RS.xC hx))
   refine⟨s.bC.length-(i+1),by omega,i+1,tT,G1,m1,fE,rfl,rfl,rfl,by rw [bU (by omega) (by omega)];rfl,ng,x1,by rw [RS.Rf hx];exact c1,?_⟩
   rw [RS.Rf hx,e4];exact e1
  |some id =>
   have k2:cell h1 (((ad b).add (i*2)).add 1)=some (uv (s.fk id)):=k2
   refine cr rfl (bw ⟨G1.ts,c9,bw ⟨G1.ts,c9,cb,cW ha ⟨(s.fk id:Int),by rw [bu];exact k2,?_⟩⟩⟩)
   have iA:id=0∨s.da id:=v.rt id (bx hx)
   have kg:=RS.anv v i
   obtain⟨q1,q2⟩:=c1.EL v kg iA
   refine Fc (r:=s.fk id) ng (c1.VQ v kg iA) fun h2 A5 G2 wK hh2 x2=>⟨(((gC m1 (s.fk id)).2:Nat):Int),rfl,?_⟩
   have ets:G2.ts=G1.ts:=hh2.2.2.2.1
   have c9':cell h2 ((ad hb).add 9)=some (.slice G1.ts.a G1.ts.n G1.ts.c):=(wK.c 9).trans (by show some (Sq G2.ts)=_;rw [ets];rfl)
   refine⟨⟨G1.ts,c9',rfl⟩,cb,cW ha ?_⟩
   have er:(gC m1 (s.fk id)).1.bC=s.jm (s.gR i) i:=(xG _ _).bC.trans e1.bC
   have asO:(gC m1 (s.fk id)).1.bC[i]?=some (s.hZ (some id)):=by rw [er];exact RS.xC hx
   obtain⟨b',AK,st,Dx,x3⟩:=wK.IM asO (s.jb (s.gz (s.gR i) id) id)
   rw [ets,ha]at AK
   obtain rfl:b=b':=by simpa [ad]using AK
   rw [bu,q1]
   refine⟨st,?_⟩
   unfold Ro
   refine⟨s.bC.length-(i+1),by omega,i+1,A5,G2,_,fE,rfl,rfl,rfl,by rw [bU (by omega) (by omega)];rfl,Dx,(x1.trans x2).trans x3,?_,?_⟩
   ·rw [RS.Re hx];exact q2.bC _
   ·have e2:=(e1.trans (⟨rfl,rfl,rfl,rfl,rfl,rfl,rfl,rfl,rfl,rfl,rfl⟩:Rest m1 m1)).trans (xG m1 (s.fk id))
    have e2:=e2.U0 ((s.jm (s.gR i) i).set i (s.Hy (s.gz (s.gR i) id) (some id)))
    have e4:s.jm (s.gR (i+1)) (i+1)=(s.jm (s.gR i) i).set i (s.Hy (s.gz (s.gR i) id) (some id)):=by
     rw [RS.A4 hx,RS.Re hx]
     congr 1
     exact RS.GH fun Nn h'=>RS.EW v (s.uS _ _).1 (RS.aep h') kg.ln
    rw [er,e4]
    exact e2
 ·have:i=s.bC.length:=by omega
  subst this
  rw [RS.WX]at c1 e1
  exact hR h1 tT G1 m1 ng x1 c1 e1
theorem JV(v:s.Inv)(rp:dP h hb bR m G)(c:RS.kX s s.Cf (fun _=>0) m) {R:RP}
  (hR:∀h' cR G' m',dP h' hb cR m' G'→pS h bR h' cR→RS.kX s s.eC (s.vr s.eC) m'→Rest m m'→∀J2 n2 x3,Fu J2 n2 (sa hb) x3 false h' R):aoX R hb h:=by
 have aic:=s.OH
 have hd0:s.vr (s.jA 0)=fun _=>0:=by
  funext x
  show (if x∈s.Cf.cq.take s.Cf.a∨x∈s.Cf.eI.take s.Cf.b then _ else 0)=0
  rw [aic.1,aic.2]
  simp
 refine OR (fun q s0 s3 h'=>∃(n:Nat) (cR:Nat→io) (G':xd) (m':MH),q=(s.dG.length+s.cK.length)-n∧s0=some (ad hb)∧s3=((1+s.fG ((s.jA n).cq.take (s.jA n).a):Nat):Int)∧dP h' hb cR m' G'∧pS h bR h' cR ∧
  RS.kX s (s.jA n) (s.vr (s.jA n)) m'∧Rest m m'∧(s.jA n).a+(s.jA n).b=n) (s.dG.length+s.cK.length)
  ⟨0,bR,G,m,rfl,rfl,?_,rp,pS.refl h bR,by rw [hd0];exact c,Rest.refl m,?_⟩ ?_
 ·show (1:Int)=((1+s.fG (s.Cf.cq.take s.Cf.a):Nat):Int)
  rw [aic.1];rfl
 ·show s.Cf.a+s.Cf.b=0;omega
 rintro q s0 s3 g h1 ⟨n,tT,G1,m1,rfl,rfl,rfl,ng,x1,c1,e1,hn⟩
 have k:=RS.hU.at v n
 have eg:s.jA (n+1)=s.kC (s.jA n):=rfl
 generalize hgn:s.jA n=gn at *
 have HX:=k.alV
 have ka:=k.a
 have kb:=k.b
 have vF:=RS.qR (s:=s) gn.cq s.dG (cu.1 k.nd).1 k.cp
 have i1:=v.u1
 have i2:=v.u2
 have i3:=v.h2
 have i4:=v.l2
 unfold W8
 have c2:cell h1 ((ad hb).add 2)=some (vp (sa G1.Ls.pb)):=(ng.c 2).trans rfl
 have c5:cell h1 ((ad hb).add 5)=some (.slice G1.gs.a G1.gs.n G1.gs.c):=(ng.c 5).trans rfl
 obtain⟨TU,fcs,fss,ra⟩:=ng.dC
 have hu:Go.Ev.cZ m1.dC=1+s.fG gn.cq:=c1.sH
 refine bw ⟨_,c2,nC ra ⟨_,rfl,?_⟩⟩
 refine ca (fun fE=>?_) fun o5=>?_
 ·unfold Fu
  refine cr rfl (bw ⟨_,c2,nC ra ⟨_,rfl,cr (decide_eq_true fE) (bw ⟨_,c2,?_⟩)⟩⟩)
  have hal:gn.a<gn.cq.length:=by
   rcases eS gn.a gn.cq.length with hl|hl
   ·exact hl
   ·rw [eT hl]at fE;omega
  obtain⟨id,iA⟩:∃id,gn.cq[gn.a]?=some id:=⟨_,br hal⟩
  obtain⟨d1,d2⟩:=RS.PA v k iA
  have hh:s.da id:=k.da (.inl (bx iA))
  have lk:=RS.K7 v c1 k (t:=.sp gn.a) iA hh d1
  obtain⟨c3,k3,_⟩:=RS.yH v c1 k (t:=.sp gn.a) iA hh d1 _ (bH _)
  rw [dE]at c3
  have hpa:=c1.arJ gn.a
  refine QX ng lk (RS.YR v hh) (by show some (G1.Ls.pb,(pos m1.dC gn.a:Int))=some (G1.Ls.pb,_);rw [hpa]) fun h2 A5 G2 wK hh2 x2=>⟨_,rfl,?_⟩
  have el:(s.enc id).cY.length=(s.dS id).cY.length:=bA ..
  rw [el]at wK
  have GV:(1+s.fG (gn.cq.take gn.a))+s.size id=1+s.fG (gn.cq.take (gn.a+1)):=by rw [RS.iO iA,RS.sK];omega
  have uc:=s.vK gn.cq (gn.a+1)
  rw [RS.Jm iA]at eg
  refine⟨s.dG.length+s.cK.length-(n+1),by omega,n+1,A5,G2,_,rfl,rfl,?_,wK,x1.trans x2,?_,e1.trans (Ac _ _ _),?_⟩
  ·rw [eg,s.kT id,d9 (by omega) (by omega)]
   show _=((1+s.fG ((s.eF gn (s.dS id).cY).cq.take (gn.a+1)):Nat):Int)
   rw [RS.oa (s.jx _ _).1 (by omega)]
   omega
  ·rw [eg,d2];exact c3.Us _
  ·rw [eg]
   show gn.a+1+(s.eF gn (s.dS id).cY).b=n+1
   rw [(s.ls _ _).2];omega
 ·have hal:gn.a=gn.cq.length:=by
   rcases eS gn.a gn.cq.length with hl|hl
   ·have h1:=RS.sK s (gn.cq.take gn.a) gn.cq[gn.a]
    have h2:=s.vK gn.cq (gn.a+1)
    rw [RS.iO (br hl),h1]at h2
    have:1≤s.size gn.cq[gn.a]:=by unfold RS.size nW.size;omega
    omega
   ·omega
  have hg:=c1.kS
  have atC:=ng.aui
  rw [hg,bA,fu]at atC
  refine bw ⟨G1.gs,c5,?_⟩
  by_cases hz:(0:Int)<(G1.gs.n:Int)
  ·rw [show decide ((G1.gs.n:Int)>(0:Int))=true from decide_eq_true hz]
   have hbl:gn.b<gn.eI.length:=by omega
   have iA:gn.eI[gn.b]?=some gn.eI[gn.b]:=br hbl
   have hgr:m1.kS=(s.dS gn.eI[gn.b]).pl::(gn.eI.drop (gn.b+1)).map fun id=>(s.dS id).pl:=by rw [hg,d8 hbl];rfl
   generalize gn.eI[gn.b]=id at iA hgr
   unfold Fu
   refine cr rfl (bw ⟨_,c2,nC ra ⟨_,rfl,cj (decide_eq_false o5) (bw ⟨G1.gs,c5,⟨by omega,hz⟩,?_⟩)⟩⟩)
   have gs:=ng.gs
   rw [hgr]at gs
   obtain⟨p,hp,hc⟩:=gs.at (i:=0) (v:=nv (s.dS id).pl) rfl
   refine cW hp ⟨_,hc,bw ⟨G1.gs,c5,⟨by omega,by omega⟩,bw ?_⟩⟩
   refine ng.arK hgr fun h2 G2 wK x2=>?_
   obtain⟨d1,d2⟩:=RS.Y0 v k iA
   have hm:=bx iA
   have hh:s.da id:=k.da (.inr hm)
   have c3:=c1.pop rfl
   have k3:=k.acZ (n:=gn.b+1) hbl
   have tg:RS.BE s {gn with b:=gn.b+1} id (.sl (s.dS id).pl):=⟨hm,rfl⟩
   have lk:=RS.K7 v c3 k3 tg hh d1
   obtain⟨c4,k4,_⟩:=RS.yH v c3 k3 tg hh d1 _ (bH _)
   rw [dE,RS.IQ]at c4
   have yL:=tg.at v c3 k3
   obtain⟨o,ho⟩:∃o,m1.blocks[(s.dS id).pl]?=some (some o):=by
    have yL:(m1.blocks[(s.dS id).pl]?).bind (fun x=>x)=some _:=yL
    cases hx:m1.blocks[(s.dS id).pl]? with
    |none=>rw [hx]at yL;cases yL
    |some y=>rw [hx]at yL;exact⟨_,congrArg some yL⟩
   obtain⟨L,hL⟩:=wK.Lj (i:=(s.dS id).pl) ho
   have F4:=wK.M7
   have F4:G2.bs.n=m1.blocks.length:=F4
   have za:=(bp.1 ho).1
   obtain⟨bb,LR,Np⟩:=wK.AV hL
   have c3':cell h2 ((ad hb).add 3)=some (.slice G2.bs.a G2.bs.n G2.bs.c):=(wK.c 3).trans rfl
   refine bw ⟨G2.bs,c3',⟨by omega,by omega⟩,cW LR ⟨some (ad L.pb),by rw [bu];exact Np,?_⟩⟩
   refine QX wK lk (RS.YR v hh) (by show (match G2.jW[(s.dS id).pl]? with|some (some L)=>some (L.pb,(1:Int))|_=>none)=some (L.pb,1);rw [hL]) fun h3 EI G3 Dx hh3 x3=>⟨_,rfl,?_⟩
   have el:(s.enc id).cY.length=(s.dS id).cY.length:=bA ..
   rw [el]at Dx
   rw [RS.OG (by rw [hal];exact bV (bH _)) iA]at eg
   refine⟨s.dG.length+s.cK.length-(n+1),by omega,n+1,EI,G3,_,rfl,rfl,?_,Dx,(x1.trans x2).trans x3,?_,(e1.trans (Rest.kS m1 _)).trans (Ac _ _ _),?_⟩
   ·rw [eg]
    show _=((1+s.fG ((s.eF gn (s.dS id).cY).cq.take (s.eF gn (s.dS id).cY).a):Nat):Int)
    rw [(s.ls _ _).1,RS.oa (s.jx _ _).1 ka]
   ·rw [eg,d2];exact c4
   ·rw [eg]
    show (s.eF gn (s.dS id).cY).a+(gn.b+1)=n+1
    rw [(s.ls _ _).1];omega
  ·rw [show decide ((G1.gs.n:Int)>(0:Int))=false from decide_eq_false hz]
   have f:RS.Fin (s.jA n):=by rw [hgn];exact⟨hal,by omega⟩
   have ee:=RS.WQ v f (by rw [hgn];omega)
   rw [hgn]at ee
   exact hR h1 tT G1 m1 ng x1 (by rw [ee];exact c1) e1 _ _ _
end
namespace RS
section
variable {s:RS}
def f0(s:RS)(id:Nat):Option dg:=if id=0 then none else some (s.rj s.eC (s.vr s.eC id) id)
def f1(s:RS)(id:Nat):Option dg:=if id∈s.eC.eI then s.f0 id else none
def iU(s:RS)(i:Nat):List (Option dg):=(s.cK.take i).map s.f1++(s.cK.drop i).map s.f0
def lw(s:RS)(id:Nat):Nat:=if id∈s.eC.eI then s.size id+1 else 0
def lz(s:RS)(i:Nat):Nat:=((s.cK.take i).map s.lw).sum
theorem wk(i:Nat):(s.iU i).length=s.cK.length:=by unfold iU;simp;omega
theorem Bw {i x:Nat}(h:s.cK[i]?=some x):(s.iU i)[i]?=some (s.f0 x):=by
 have hi:=(bp.1 h).1
 unfold iU
 rw [bN (by simp;omega),bD,fi]
 have:i+(i-((s.cK.take i).map s.f1).length)=i:=by simp;omega
 rw [this,h];rfl
theorem zI {i x:Nat}(h:s.cK[i]?=some x):s.iU (i+1)=(s.iU i).set i (s.f1 x):=by
 obtain⟨hi,he⟩:=bp.1 h
 unfold iU
 rw [d8 hi,he,iO h,cx,gp _ _ (by simp;omega)]
 have:i-((s.cK.take i).map s.f1).length=0:=by simp;omega
 rw [this]
 simp
theorem Bg {i x:Nat}(h:s.cK[i]?=some x):s.lz (i+1)=s.lz i+s.lw x:=by
 unfold lz
 rw [iO h]
 simp
theorem E6(i:Nat):s.lz i≤s.ci.dI:=by
 show _≤(s.cK.map s.lw).sum
 unfold lz
 have:s.cK=s.cK.take i++s.cK.drop i:=(eZ i _).symm
 conv=>rhs;rw [this]
 rw [cx,iG]
 omega
theorem CZ:s.lz s.cK.length=s.ci.dI:=by
 unfold lz
 rw [dE]
 rfl
theorem apb(v:s.Inv):s.iU s.cK.length=s.ci.cK.map fun id=>if id=0 then none else some (s.ci.enc id):=by
 have k:=hU.nA v
 unfold iU
 rw [dE,gv,kL,fh,kI,eV]
 refine cD fun x _=>?_
 show s.f1 x=if(if x∈s.eC.eI then x else 0)=0 then none else some (s.ci.enc (if x∈s.eC.eI then x else 0))
 unfold f1 f0
 by_cases h:x∈s.eC.eI
 ·simp only [if_pos h]
  rw [if_neg (k.ln x h).1,if_neg (k.ln x h).1,yf v (.inr h),MW (Ce v) (.inr h)]
 ·simp only [if_neg h,if_true]
theorem WK(v:s.Inv){dn:Nat→Nat}(hd:dn=s.vr s.eC):(s.eC.cq.map fun id=>s.rj s.eC (dn id) id)=s.ci.dG.map s.ci.enc:=by
 subst hd
 refine cD fun x hx=>?_
 rw [yf v (.inl hx),MW (Ce v) (.inl hx)]
theorem SC(v:s.Inv):s.jm s.Cf s.bC.length=s.ci.bC.map s.ci.hZ:=by
 unfold jm
 rw [dE,gv,kI,eV]
 refine cD fun x hx=>?_
 cases x with
 |none=>rfl
 |some id =>
  show (true,s.jb s.Cf id)=(true,s.ci.fk id)
  have hp:=s.Fl 0 s.eB.length
  rw [fo]at hp
  have h0:id=0∨id∈s.Cf.cq∨id∈s.Cf.eI:=by
   have:=aep (s:=s) (i:=s.bC.length) (id:=id) (by rw [dE];exact hx)
   rwa [WX]at this
  rw [yd v (Ak hx)]
  exact congrArg _ (EW v (g':=s.eC) hp.1 h0 (hU.zero v).ln).symm
end
end RS
section
variable {h:Hp} {hb:Nat} {bR:Nat→io} {m:MH} {G:xd} {s:RS}
theorem nD(b i j:Nat):((ad b).add i).add j=⟨b,i+j,none⟩:=by rw [cm,kD]
def RS.sI(s:RS)(m:MH)(i:Nat):MH:={m with dJ:=m.dC,hz:=m.sz,dC:=m.dJ,sz:=m.hz,blocks:=s.iU i,dI:=s.lz i}
theorem JU(v:s.Inv)(rp:dP h hb bR m G)(c:RS.kX s s.eC (s.vr s.eC) m) (e:Rest {s.dM []with bC:=s.jm s.Cf s.bC.length} m) {R:RP}
  (hR:∀h' cR G' uK,dP h' hb cR (s.ci.dM uK) G'→iV h bR h' cR→R (vt #[]) h'):∀J2 n2 x3,Fu J2 n2 (sa hb) x3 false h R:=by
 intro J2 n2 x3
 have k:=RS.hU.nA v
 have i1:=v.u1
 have i2:=v.u2
 have i3:=v.h2
 have i4:=v.l2
 have i5:=v.Sp
 have hlg:=RS.qw v
 unfold Fu
 refine cj rfl ?_
 have c2:cell h ((ad hb).add 2)=some (vp (sa G.Ls.pb)):=(rp.c 2).trans rfl
 have c1:cell h ((ad hb).add 1)=some (vp (sa G.Lh.pb)):=(rp.c 1).trans rfl
 refine bw ⟨_,c2,bw ⟨_,c1,bw ?_⟩⟩
 obtain⟨rs,xs⟩:=rp.swap
 rw [cm]
 refine⟨rp.gZ (by omega),dh fun h9 e9=>bw ?_⟩
 have amy:eM h9 hb ((kB m G).set 1 (vp (sa G.Ls.pb))):=by rw [e9];exact hG rp.row 1 _
 rw [←e9]at rs xs
 rw [cm]
 refine⟨jH amy (by show 2<19;omega),dh fun Dq e10=>bw ?_⟩
 rw [←e10]at rs xs
 have vF:m.sz=s.dJ:=c.sz
 have hhz:m.hz=s.dJ:=e.hz
 have hbl:m.blocks=s.iU 0:=by
  rw [c.blocks]
  unfold RS.iU
  rw [tt,tx]
  rfl
 refine rs.num (i:=6) (m':=s.sI m 0) (cm _ _) (by omega) rfl rfl rfl rfl rfl hbl.symm rfl rfl rfl fun h2 wK x2=>?_
 have x02:=xs.trans x2.o
 have F4:=wK.M7
 have F4:G.bs.n=(s.iU 0).length:=F4
 rw [RS.wk]at F4
 have c3:cell h2 ((ad hb).add 3)=some (.slice G.bs.a G.bs.n G.bs.c):=(wK.c 3).trans rfl
 refine bw ⟨G.bs,c3,?_⟩
 rw [F4]
 generalize hg2:({G with Lh:=G.Ls,Ls:=G.Lh}:xd)=G2 at wK
 have hl0:s.cK.length=s.cK.length-0:=by omega
 refine OQ (fun q s0 EB EA h'=>∃(i:Nat) (cR:Nat→io) (G':xd),i≤s.cK.length∧q=s.cK.length-i∧s0=some (ad hb)∧EB=(s.cK.length:Int)∧EA=(i:Int)∧dP h' hb cR (s.sI m i) G'∧iV h bR h' cR) s.cK.length
  ⟨0,_,G2,cP _,rfl,rfl,rfl,rfl,wK,x02⟩ ?_
 rintro q s0 EB EA g h1 ⟨i,tT,G1,hi,rfl,rfl,rfl,rfl,ng,x1⟩
 unfold W7
 have hrn:=ng.agz
 have hrn:G1.rs.n=m.dL.length:=hrn
 have ah4:=ng.M7
 have ah4:G1.bs.n=(s.iU i).length:=ah4
 rw [RS.wk]at ah4
 have HU:m.dL.length=s.cK.length:=by rw [c.dL,bA]
 have c4:cell h1 ((ad hb).add 4)=some (.slice G1.rs.a G1.rs.n G1.rs.c):=(ng.c 4).trans rfl
 have c3':cell h1 ((ad hb).add 3)=some (.slice G1.bs.a G1.bs.n G1.bs.c):=(ng.c 3).trans rfl
 have c6:cell h1 ((ad hb).add 6)=some (vi (s.lz i:Int)):=(ng.c 6).trans rfl
 have hla:=s.E6 i
 refine ca (fun fE=>?_) fun o5=>?_
 ·have fE:i<s.cK.length:=by omega
  obtain⟨x,hx⟩:∃x,s.cK[i]?=some x:=⟨_,br fE⟩
  obtain⟨b,ha,hc,GX⟩:=ng.KO (i:=i) (by show i<m.dL.length;omega)
  have C2:(s.sI m i).dL.getD i false=decide (x∈s.eC.eI):=by
   show m.dL.getD i false=_
   rw [c.dL,bB,bD,hx];rfl
  rw [C2]at hc
  have cb:(0:Int)≤(i:Int)∧(i:Int)<(G1.rs.n:Int):=by omega
  have cb2:(0:Int)≤(i:Int)∧(i:Int)<(G1.bs.n:Int):=by omega
  refine bw ⟨G1.rs,c4,cb,cW ha ⟨_,by rw [bu];exact hc,?_⟩⟩
  have ZK:wrap .i64 ((i:Int)+1)=((i+1:Nat):Int):=by rw [bU (by omega) (by omega)];rfl
  by_cases ZJ:x∈s.eC.eI
  ·refine cj (by simp [ZJ]) (bw ⟨_,c6,bw ⟨G1.bs,c3',cb2,?_⟩⟩)
   obtain⟨tF,_⟩:=k.ln x ZJ
   have anj:(s.sI m i).blocks[i]?=some (some (s.rj s.eC (s.vr s.eC x) x)):=by
    show (s.iU i)[i]?=_
    rw [RS.Bw hx]
    unfold RS.f0
    rw [if_neg tF]
   obtain⟨L,hL⟩:=ng.Lj anj
   obtain⟨bb,LR,Np⟩:=ng.AV hL
   obtain⟨⟨wc,fc,fs,ra⟩,_⟩:=ng.bl i _ _ anj hL
   refine cW LR ⟨some (ad L.pb),by rw [bu];exact Np,_,ru ra ⟨rfl,rfl⟩,bw ?_⟩
   have azZ:=RS.Bg hx
   have hlw:s.lw x=s.size x+1:=by unfold RS.lw;rw [if_pos ZJ]
   have aAj:=s.E6 (i+1)
   have Ug:s.iU (i+1)=s.iU i:=by
    rw [RS.zI hx]
    refine RS.xv ?_
    rw [RS.Bw hx]
    unfold RS.f1
    rw [if_pos ZJ]
   have hv:wrap .i64 ((s.lz i:Int)+(((s.rj s.eC (s.vr s.eC x) x).size+1:Nat):Int))=((s.lz (i+1):Nat):Int):=by
    rw [s.Cq,d9 (by omega) (by omega)];omega
   rw [hv]
   refine ng.num (i:=6) (m':=s.sI m (i+1)) (cm _ _) (by omega) rfl rfl rfl rfl rfl Ug rfl rfl rfl fun h3 Dx x3=>?_
   exact⟨s.cK.length-(i+1),by omega,i+1,tT,G1,fE,rfl,rfl,rfl,ZK,Dx,x1.trans x3.o⟩
  ·refine cr (by simp [ZJ]) (bw ⟨G1.bs,c3',cb2,?_⟩)
   obtain⟨b2,ha2,st,Dx,x3⟩:=ng.YY (i:=i) (by show i<(s.iU i).length;rw [RS.wk];exact fE)
   refine cW ha2 ?_
   rw [bu]
   refine⟨st,?_⟩
   have Ug:s.iU (i+1)=(s.iU i).set i none:=by
    rw [RS.zI hx]
    unfold RS.f1
    rw [if_neg ZJ]
   have ats:s.lz (i+1)=s.lz i:=by
    rw [RS.Bg hx]
    unfold RS.lw
    rw [if_neg ZJ];rfl
   have em:s.sI m (i+1)={s.sI m i with blocks:=(s.sI m i).blocks.set i none}:=by
    unfold RS.sI
    rw [Ug,ats]
   exact⟨s.cK.length-(i+1),by omega,i+1,tT,_,fE,rfl,rfl,rfl,ZK,by rw [em];exact Dx,x1.trans x3.o⟩
 ·have:i=s.cK.length:=by omega
  subst this
  refine bw ⟨G1.rs,c4,?_⟩
  refine ng.PJ fun h2 wK x2=>bw ⟨_,(wK.c 6).trans rfl,bw ?_⟩
  refine wK.num (i:=7) (m':={s.sI m s.cK.length with dL:=m.dL.map fun _=>false,gU:=0}) (cm _ _) (by omega) rfl rfl rfl rfl rfl rfl rfl rfl rfl fun h3 Dx x3=>bw ?_
  refine Dx.num (i:=8) (m':={s.sI m s.cK.length with dL:=m.dL.map fun _=>false,gU:=0,gK:=s.lz s.cK.length}) (cm _ _) (by omega) rfl rfl rfl rfl rfl rfl rfl rfl rfl fun h4 Vh x4=>bw ?_
  obtain⟨SB,x5⟩:=Vh.ag0
  rw [cm]
  refine⟨Vh.gZ (by omega),dh fun h5 e5=>?_⟩
  rw [←e5]at SB x5
  have c16:cell h5 (((ad hb).add 10).add 6)=some (vi m.r6):=by rw [nD];exact(bS SB.row 16).trans rfl
  refine bw ⟨_,c16,bw ?_⟩
  refine SB.num (i:=16) (m':={s.sI m s.cK.length with dL:=m.dL.map fun _=>false,gU:=0,gK:=s.lz s.cK.length,kS:=[],r6:=wrap .i64 (m.r6+1)}) (nD _ _ _) (by omega) rfl rfl rfl rfl rfl rfl rfl rfl rfl fun h6 rp6 x6=>bw ?_
  have c1':cell h6 ((ad hb).add 1)=some (vp (sa G1.Lh.pb)):=(rp6.c 1).trans rfl
  obtain⟨wc,fc,fs,ra⟩:=rp6.dJ
  have hus:Go.Ev.cZ m.dC=1+s.fG s.eC.cq:=c.sH
  refine⟨_,c1',nC ra ⟨_,rfl,bw ?_⟩⟩
  have uc:=RS.qR (s:=s) s.eC.cq s.dG (cu.1 k.nd).1 k.cp
  have hv:wrap .i64 ((Go.Ev.cZ m.dC:Int)-(1:Int))=(s.fG s.eC.cq:Int):=by rw [hus,d9 (by omega) (by omega)];omega
  show Go.Ev.gZ h6 (((ad hb).add 10).add 8)∧gi (fy h6 (((ad hb).add 10).add 8) (vi (wrap .i64 ((Go.Ev.cZ m.dC:Int)-(1:Int))))) fun h21=>R (vt #[]) h21
  rw [hv]
  refine rp6.num (i:=18) (m':={s.sI m s.cK.length with dL:=m.dL.map fun _=>false,gU:=0,gK:=s.lz s.cK.length,kS:=[],r6:=wrap .i64 (m.r6+1),r8:=s.fG s.eC.cq}) (nD _ _ _) (by omega) rfl rfl rfl rfl rfl rfl rfl rfl rfl fun h7 rp7 x7=>?_
  have em:({s.sI m s.cK.length with dL:=m.dL.map fun _=>false,gU:=0,gK:=s.lz s.cK.length,kS:=[],r6:=wrap .i64 (m.r6+1),r8:=s.fG s.eC.cq}:MH)=s.ci.dM m.dJ:=by
   unfold RS.sI RS.dM
   simp only [MH.mk.injEq]
   refine⟨e.cM,vF,?_,hhz,trivial,RS.apb v,?_,trivial,RS.CZ,rfl,RS.CZ,?_,e.r5,?_,e.r7,rfl⟩
   ·rw [c.dC];exact RS.WK v rfl
   ·rw [c.dL,RS.kL,fh,fh];rfl
   ·rw [e.bC];exact RS.SC v
   ·rw [e.r6];rfl
  rw [em]at rp7
  exact hR h7 tT _ m.dJ rp7 (((((x1.trans x2.o).trans x3.o).trans x4.o).trans x5.o).trans (x6.trans x7).o)
theorem te(v:s.Inv){sp:List dg}(rp:dP h hb bR (s.dM sp) G) {R:RP}
  (hR:∀h' cR G' uK,dP h' hb cR (s.ci.dM uK) G'→iV h bR h' cR→R (vt #[]) h'):bq PG 70 #[vp (sa hb)] h R:=by
 refine abV ?_
 unfold anU
 have c2:cell h ((ad hb).add 2)=some (vp (sa G.Ls.pb)):=(rp.c 2).trans rfl
 obtain⟨wc,fc,fs,ra⟩:=rp.dC
 refine bw ⟨_,c2,TQ ra fun h1 L1 ha hg=>⟨rfl,bw ?_⟩⟩
 have ng:=rp.KE ha hg
 have x1:iV h bR h1 (nR bR h.size L1.fp .dC):=iV.of (bR:=bR) hg.gK (fun b hb=>by rw [rp.lN b hb];nofun) fun b hb ho=>(gh hb).trans ho
 have ng:dP h1 hb _ (s.dM []) {G with Ls:=L1}:=ng
 have c9:cell h1 ((ad hb).add 9)=some (.slice G.ts.a G.ts.n G.ts.c):=(ng.c 9).trans rfl
 have hn:=ng.NB
 have hn:G.ts.n=(s.bC.map s.hZ).length:=hn
 rw [bA]at hn
 refine⟨G.ts,c9,?_⟩
 rw [hn]
 refine Ha v ng fun h2 A5 G2 m2 wK x2 c2 e2=>?_
 refine JV v wK c2 fun h3 EI G3 m3 Dx x3 c3 e3=>?_
 exact JU v Dx c3 (e2.trans e3) fun h4 EH G4 sp4 Vh x4=>hR h4 EH G4 sp4 Vh (((x1.trans x2.o).trans x3.o).trans x4)
end
end Go.Ev
