/- The heap's graph and the document's world: h. No condition. -/
import Derived.Test.YtjigacanjlppiaaGreatDoorP17
set_option linter.all false
set_option maxRecDepth 1000000
open Go.IntKind (wrap)
namespace Go.Ev
open Go.Proofs
theorem qv {α β:Type}{f g:α→Option β}:∀ {l:List α},(∀x∈l,f x=g x)→l.filterMap f=l.filterMap g
 | [],_=>rfl
 |x::l,h=>by rw [iw,iw,h x (bQ ..),qv fun y hy=>h y (bJ _ hy)]
theorem Ng {b l:LN}{z v:Nat}(h:l.length=b.length)(hz:0<z):lY (b++[z]) (l++[v])=lY b l++[v]:=by
 unfold lY
 rw [rJ h.symm,gG,cx]
 congr 1
 rw [kU,eP,if_pos (decide_eq_true hz)];rfl
theorem BD:∀(b l:LN) (k:Nat),(lY (b.set k 0) l).Sublist (lY b l)
 | [],_,_=>by unfold lY;simp
 |x::b,[],k=>by unfold lY;simp
 |x::b,y::l,0=>by
  unfold lY
  rw [jD,kU,kU,eP,eP,if_neg (by simp)]
  split
  ·rw [cU];exact List.sublist_cons_self _ _
  ·exact mZ _
 |x::b,y::l,k+1=>by
  have ih:=BD b l k
  unfold lY at *
  rw [fg,kU,kU,eP,eP]
  split
  ·rw [cU,cU];exact ih.cons_cons _
  ·exact ih
theorem ZW {b l:LN}{k:Nat}{q:Nat × Nat}(hq:q∈(b.set k 0).zip l) (h0:0<q.1):q∈b.zip l:=by
 obtain⟨j,hj⟩:=bT.1 hq
 obtain⟨x,y⟩:=q
 rw [d6]at hj
 rcases lP hj.1 with⟨_,e⟩|⟨_,h⟩
 ·have h0:0<x:=h0
  omega
 ·exact bx (d6.2 ⟨h,hj.2⟩)
section
variable {nd:List di} {bC jl:List (Option Nat)} {W:DW} {vo:LN} {to:List TD} {lv:LN} {t t':DT} {T:TD} {dN:LN} {i:Nat}
abbrev Zu (bC:List (Option Nat)) (W:DW) (vo:LN) (to:List TD) (lv:LN):Prop :=
 ∀r,r≠0→(some r∈bC↔(∃(i:Nat) (t:DT) (T:TD),W.de[i]?=some t∧to[i]?=some T∧t.ib=true∧r=T.t)∨∃v∈lY W.gy lv,vo[v]?=some r)
theorem qK.reT(p:qK nd bC W vo to lv)(ht:W.de[i]?=some t)(e1:t'.es=t.es)(e2:t'.df=t.df)(e3:(t'.bk,t'.od,t'.mv)=(t.bk,t.od,t.mv)) (hl:t'.ib=true→t.ib=true) (rt:Zu jl (W.gJ i t') vo to lv):qK nd jl (W.gJ i t') vo to lv:=by
 have back:∀ {j:Nat} {t0:DT},(W.gJ i t').de[j]?=some t0→t0.ib=true→∃t1,W.de[j]?=some t1∧t1.ib=true∧t0.es=t1.es∧t0.df=t1.df∧(t0.bk,t0.od,t0.mv)=(t1.bk,t1.od,t1.mv):=fun {j t0} h h3=>by
  rcases kQ h with⟨rfl,rfl,_⟩|⟨_,h⟩
  ·exact⟨t,ht,hl h3,e1,e2,e3⟩
  ·exact⟨t0,h,h3,rfl,rfl,rfl⟩
 refine⟨p.ll,p.mA,by show to.length=(W.de.set i t').length;rw [cd];exact p.tl,p.v0,p.vn,p.vd,fun j t0 T0 h1 h2 h3=>?_,fun j k t0 t1 T0 T1 h1 h2 h3 h4 h5 h6 ZM=>?_,rt,p.bl,p.bd,fun v hv t0 h1 h2 e he=>?_⟩
 ·obtain⟨t1,q1,q2,q3,q4,q5⟩:=back h1 h3
  obtain⟨r,d⟩:=p.tb j t1 T0 q1 h2 q2
  exact⟨⟨r.c,r.k,r.df.trans q4.symm,q5.trans r.sh,by rw [q3];exact r.es,by rw [q3];exact r.mA⟩,d⟩
 ·obtain⟨t2,q1,q2,_⟩:=back h1 h5
  obtain⟨t3,q3,q4,_⟩:=back h2 h6
  exact p.dj j k t2 t3 T0 T1 q1 q3 h3 h4 q2 q4 ZM
 ·obtain⟨j,hj⟩:=bT.1 h1
  obtain⟨t1,q1,q2,q3,_⟩:=back hj h2
  exact p.bs v hv t1 (bx q1) q2 e (q3▸he)
theorem qK.ajk {ts:Sl}{m:List di}(p:qK nd bC W vo to lv)(Kj:lZ (nd++m) vo t T) (hn:∀x∈T.dN,nd.length≤x) (hes:t.es=[]) (rt:Zu jl {W with de:=W.de++[t],ts:=ts} vo (to++[T]) lv):qK (nd++m) jl {W with de:=W.de++[t],ts:=ts} vo (to++[T]) lv:=by
 have g:=p.grow (jl:=bC) m fun _ _=>oy
 have cs:∀ {j:Nat} {t0:DT} {T0:TD},(W.de++[t])[j]?=some t0→(to++[T])[j]?=some T0→(W.de[j]?=some t0∧to[j]?=some T0)∨(j=W.de.length∧t0=t∧T0=T):=fun {j t0 T0} h1 h2=>by
  by_cases hj:j<W.de.length
  ·rw [bL hj]at h1
   rw [bL (by rw [p.tl];exact hj)]at h2
   exact .inl ⟨h1,h2⟩
  ·have ej:j=W.de.length:=by
    have:=(bp.1 h1).1
    rw [bG]at this
    simp at this
    omega
   rw [bN (by omega),ej,dD]at h1
   rw [bN (by rw [p.tl];omega),ej,p.tl,dD]at h2
   exact .inr ⟨ej,(bt h1).symm,(bt h2).symm⟩
 refine⟨p.ll,p.mA,by rw [bG,p.tl];show _=(W.de++[t]).length;rw [bG];rfl,p.v0,g.vn,p.vd,fun j t0 T0 h1 h2 h3=>?_,fun j k t0 t1 T0 T1 h1 h2 h3 h4 h5 h6 ZM x hx=>?_,rt,p.bl,p.bd,fun v hv t0 h1 h2 e he=>?_⟩
 ·rcases cs h1 h2 with⟨q1,q2⟩|⟨_,rfl,rfl⟩
  ·exact g.tb j t0 T0 q1 q2 h3
  ·exact⟨Kj,fun x hx hv=>by have:=p.Kv hv (Kj.c.g.nz x hx);have:=hn x hx;omega⟩
 ·rcases cs h1 h3 with⟨q1,q2⟩|⟨ej,rfl,rfl⟩<;>rcases cs h2 h4 with⟨q3,q4⟩|⟨ek,rfl,rfl⟩
  ·exact p.dj j k t0 t1 T0 T1 q1 q3 q2 q4 h5 h6 ZM x hx
  ·exact fun h=>by have:=(p.tb j t0 T0 q1 q2 h5).1.c.lt hx;have:=hn x h;omega
  ·exact fun h=>by have:=(p.tb k t1 T1 q3 q4 h6).1.c.lt h;have:=hn x hx;omega
  ·exact absurd (ej.trans ek.symm) ZM
 ·have h1:t0∈W.de++[t]:=h1
  rcases bI.1 h1 with h|h
  ·exact p.bs v hv t0 h h2 e he
  ·rw [bM.1 h,hes]at he
   cases he
theorem qK.BB {bs:Sl}{z v m:Nat}(p:qK nd bC W vo to lv)(hz:W.eX[v]?=some (z,m)) (h0:0<z) (h1:1≤v) (hn:v∉lY W.gy lv) (he:∀t∈W.de,t.ib=true→∀e∈t.es,e.val≠v) (rt:Zu jl {W with gy:=W.gy++[z],bs:=bs} vo to (lv++[v])):qK nd jl {W with gy:=W.gy++[z],bs:=bs} vo to (lv++[v]):=by
 have ea:=Ng (v:=v) p.ll h0
 refine⟨by rw [bG,p.ll];show _=(W.gy++[z]).length;rw [bG];rfl,p.mA,p.tl,p.v0,p.vn,p.vd,p.tb,p.dj,rt,fun q hq hp=>?_,?_,fun x hx t ht hl e hee=>?_⟩
 ·have hq:q∈(W.gy++[z]).zip (lv++[v]):=hq
  rw [rJ p.ll.symm]at hq
  rcases bI.1 hq with h|h
  ·exact p.bl q h hp
  ·have:q=(z,v):=by simpa using h
   subst this
   exact⟨h1,m,hz⟩
 ·show (lY (W.gy++[z]) (lv++[v])).Nodup
  rw [ea,cu]
  exact⟨p.bd,by simp,fun a ha b hb e=>by rw [bM.1 hb]at e;exact hn (e▸ha)⟩
 ·have hx:x∈lY (W.gy++[z]) (lv++[v]):=hx
  rw [ea]at hx
  rcases bI.1 hx with h|h
  ·exact p.bs x h t ht hl e hee
  ·rw [bM.1 h]
   exact he t ht hl e hee
theorem qK.xZ {k:Nat}(p:qK nd bC W vo to lv)(rt:Zu jl {W with gy:=W.gy.set k 0} vo to lv):qK nd jl {W with gy:=W.gy.set k 0} vo to lv :=
 ⟨by show lv.length=(W.gy.set k 0).length;rw [cd];exact p.ll,p.mA,p.tl,p.v0,p.vn,p.vd,p.tb,p.dj,rt,fun q hq hp=>p.bl q (ZW hq hp) hp,p.bd.sublist (BD _ _ _),fun x hx t ht hl e he=>p.bs x ((BD _ _ _).subset hx) t ht hl e he⟩
theorem HC.NV {vw:List VD}{ho:List zg}{lo:LN}(x:HC bC W vo to lv vw ho lo)(tl:to.length=W.de.length)(ll:lv.length=W.gy.length)(hv:∀v∈lY W.gy lv,v<vo.length):Zu bC W vo to lv:=fun r _=>x.rt tl ll hv r
end
section
variable {bC jl:List (Option Nat)} {W W':DW} {vo vo':LN} {to to':List TD} {lv:LN} {vw:List VD} {ho:List zg} {lo:LN} {i:Nat} {t t':DT}
theorem FM(vw:List VD)(v:VD)(i:Nat):FN (vw++[v]) i=FN vw i+(if v.jp=true∧v.id=i then 1 else 0):=by
 unfold FN
 rw [gG,bG]
 congr 1
 by_cases h:v.jp=true∧v.id=i
 ·rw [if_pos h,fI (by simp [h.1,h.2])];rfl
 ·rw [if_neg h,gu (by simpa using h)];rfl
theorem M0(ho:List zg)(x:zg)(i:Nat):FO (ho++[x]) i=FO ho i+(if x.id=some i then 1 else 0):=by
 unfold FO
 rw [gG,bG]
 congr 1
 by_cases h:x.id=some i
 ·rw [if_pos h,fI (by simp [h])];rfl
 ·rw [if_neg h,gu (by simpa using h)];rfl
theorem HC.AZ(x:HC bC W vo to lv vw ho lo)(hr:wQ jl bC)(et:∀i,i<W.de.length→Eh to' i=Eh to i)(el:W'.de.length=W.de.length)(eb:W'.gy=W.gy)(ev:∀v∈lY W.gy lv,vo'.getD v 0=vo.getD v 0)(ec:∀(i:Nat) t',W'.de[i]?=some t'→∃t,W.de[i]?=some t∧t'.vw=t.vw∧t'.hd=t.hd):HC jl W' vo' to' lv vw ho lo:=by
 have e:HS W' vo' to' lv vw ho lo=HS W vo to lv vw ho lo:=by
  unfold HS
  rw [eb]
  have h1:vw.filterMap (oM to')=vw.filterMap (oM to):=qv fun v hv=>by
   unfold oM
   rw [et v.id (x.Nl v hv).1]
  have h2:ho.filterMap (pV to')=ho.filterMap (pV to):=qv fun y hy=>by
   unfold pV
   cases hi:y.id with
   |none=>rfl
   |some j=>rw [dR,dR,et j (x.hp y hy j hi).1]
  have h3:((W.gy.zip lv).zip lo).filterMap (pu vo')=((W.gy.zip lv).zip lo).filterMap (pu vo):=qv fun y hy=>by
   unfold pu
   split
   ·rename_i hp
    rw [ev y.1.2 (cy.2 ⟨y.1,dU.2 ⟨(List.of_mem_zip hy).1,decide_eq_true hp⟩,rfl⟩)]
   ·rfl
  rw [h1,h2,h3]
 refine⟨e▸x.c.T5 hr,fun v hv=>by rw [el];exact x.Nl v hv,fun y hy j hj=>by rw [el];exact x.hp y hy j hj,by rw [eb];exact x.lp,fun i t' h=>?_⟩
 obtain⟨t,h1,h2,h3⟩:=ec i t' h
 obtain⟨q1,q2⟩:=x.cv i t h1
 exact⟨h2.trans q1,h3.trans q2⟩
end
theorem Bm {α β:Type}{f:α→Option β}:∀ {l:List α} {k:Nat} {x x':α} {y:β},l[k]?=some x→f x=some y→f x'=none→(l.filterMap f).Perm (y::(l.set k x').filterMap f)
 | [],_,_,_,_,h,_,_=>by simp at h
 |a::l,0,x,x',y,h,h1,h2=>by
  obtain rfl:a=x:=by simpa using h
  rw [jD,iw,iw,h1,h2]
 |a::l,k+1,x,x',y,h,h1,h2=>by
  have ih:=Bm (l:=l) (k:=k) (x:=x) (x':=x') (y:=y) (by simpa using h) h1 h2
  rw [fg,iw,iw]
  cases f a with
  |none=>exact ih
  |some b=>exact(ih.cons b).trans (List.Perm.swap _ _ _)
theorem An {α:Type}{p:α→Bool}:∀ {l:List α} {k:Nat} {x x':α},l[k]?=some x→((l.set k x').filter p).length+(if p x then 1 else 0)=(l.filter p).length+(if p x' then 1 else 0)
 | [],_,_,_,h=>by simp at h
 |a::l,0,x,x',h=>by
  obtain rfl:a=x:=by simpa using h
  rw [jD,eP,eP]
  cases p a<;>cases p x'<;>simp
 |a::l,k+1,x,x',h=>by
  have ih:=An (l:=l) (k:=k) (x:=x) (x':=x') (p:=p) (by simpa using h)
  rw [fg,eP,eP]
  cases p a<;>simp only [dy,if_false,if_true,dF]<;>omega
theorem Hg {α β:Type}{l l':List α}{m:List β}{j:Nat}(h:l[j]?=l'[j]?):(l.zip m)[j]?=(l'.zip m)[j]?:=by
 simp only [List.zip,List.getElem?_zipWith,h]
section
variable {bC:List (Option Nat)} {W:DW} {vo:LN} {to:List TD} {lv:LN} {vw:List VD} {ho:List zg} {lo:LN} {i k tb:Nat} {t:DT} {T:TD} {v:VD} {x:zg}
theorem HC.yS(c:HC bC W vo to lv vw ho lo)(ht:W.de[i]?=some t):HC (ix bC (Eh to i)) (W.gJ i {t with vw:=t.vw+1}) vo to lv (vw++[⟨tb,i,RS.dV bC+1,true⟩]) ho lo:=by
 have iZ:=(bp.1 ht).1
 have el:(W.gJ i {t with vw:=t.vw+1}).de.length=W.de.length:=cd
 refine⟨(c.c.add (r0:=Eh to i)).lS ?_,fun v hv=>?_,fun y hy j hj=>by rw [el];exact c.hp y hy j hj,c.lp,fun j t0 h=>?_⟩
 ·unfold HS
  rw [jv]
  have e:([⟨tb,i,RS.dV bC+1,true⟩]:List VD).filterMap (oM to)=[(RS.dV bC,Eh to i)]:=rfl
  rw [e,ce]
  exact gT
 ·rw [el]
  rcases bI.1 hv with h|h
  ·exact c.Nl v h
  ·rw [bM.1 h];exact⟨iZ,fun _=>sB _⟩
 ·rcases kQ h with⟨rfl,rfl,_⟩|⟨hj,h⟩
  ·obtain⟨q1,q2⟩:=c.cv j t ht
   rw [FM,if_pos ⟨rfl,rfl⟩]
   exact⟨by show t.vw+1=_;omega,q2⟩
  ·obtain⟨q1,q2⟩:=c.cv j t0 h
   rw [FM,if_neg (fun e=>hj e.2.symm)]
   exact⟨q1,q2⟩
theorem HC.EU {ts:Sl}(c:HC bC W vo to lv vw ho lo)(tl:to.length=W.de.length)(e1:t.vw=1)(e2:t.hd=0):HC (ix bC T.t) {W with de:=W.de++[t],ts:=ts} vo (to++[T]) lv (vw++[⟨tb,W.de.length,RS.dV bC+1,true⟩]) ho lo:=by
 have told:∀j,j<W.de.length→Eh (to++[T]) j=Eh to j:=fun j hj=>by unfold Eh;rw [bL (by omega)]
 have af9:Eh (to++[T]) W.de.length=T.t:=by unfold Eh;rw [bN (by omega),tl,dD];rfl
 have el:(W.de++[t]).length=W.de.length+1:=by rw [bG];rfl
 have cz:FN vw W.de.length=0∧FO ho W.de.length=0:=by
  unfold FN FO
  constructor
  ·rw [dA,je]
   intro v hv h
   rw [eD,decide_eq_true_eq]at h
   have:=(c.Nl v hv).1
   omega
  ·rw [dA,je]
   intro y hy h
   have:=(c.hp y hy _ (of_decide_eq_true h)).1
   omega
 refine⟨(c.c.add (r0:=T.t)).lS ?_,fun v hv=>?_,fun y hy j hj=>?_,c.lp,fun j t0 h=>?_⟩
 ·unfold HS
  have h1:vw.filterMap (oM (to++[T]))=vw.filterMap (oM to):=qv fun v hv=>by
   unfold oM
   rw [told v.id (c.Nl v hv).1]
  have h2:ho.filterMap (pV (to++[T]))=ho.filterMap (pV to):=qv fun y hy=>by
   unfold pV
   cases hi:y.id with
   |none=>rfl
   |some j=>rw [dR,dR,told j (c.hp y hy j hi).1]
  have e:([⟨tb,W.de.length,RS.dV bC+1,true⟩]:List VD).filterMap (oM (to++[T]))=[(RS.dV bC,T.t)]:=by
   show [(RS.dV bC+1-1,Eh (to++[T]) W.de.length)]=_
   rw [af9,jC]
  rw [jv,h1,h2,e,ce]
  exact gT
 ·show v.id<(W.de++[t]).length∧_
  rw [el]
  rcases bI.1 hv with h|h
  ·exact⟨Nat.lt_succ_of_lt (c.Nl v h).1,(c.Nl v h).2⟩
  ·rw [bM.1 h];exact⟨Nat.lt_succ_self _,fun _=>sB _⟩
 ·show j<(W.de++[t]).length∧_
  rw [el]
  exact⟨Nat.lt_succ_of_lt (c.hp y hy j hj).1,(c.hp y hy j hj).2⟩
 ·have h:(W.de++[t])[j]?=some t0:=h
  rw [FM]
  by_cases hj:j<W.de.length
  ·rw [bL hj]at h
   rw [if_neg (fun e=>by have:=e.2;simp at this;omega)]
   exact c.cv j t0 h
  ·have ej:j=W.de.length:=by
    have:=(bp.1 h).1
    omega
   subst ej
   rw [bN (bH _),dD]at h
   obtain rfl:=bt h
   rw [if_pos ⟨rfl,rfl⟩,cz.1,cz.2]
   exact⟨e1,e2⟩
theorem HC.close(c:HC bC W vo to lv vw ho lo)(hv:vw[k]?=some v)(ij:v.jp=true)(ht:W.de[v.id]?=some t):HC (bC.set (v.hn-1) none) (W.gJ v.id {t with vw:=t.vw-1}) vo to lv (vw.set k {v with jp:=false}) ho lo∧1≤t.vw:=by
 have el:(W.gJ v.id {t with vw:=t.vw-1}).de.length=W.de.length:=cd
 have hm:=bx hv
 have f1:oM to v=some (v.hn-1,Eh to v.id):=by unfold oM;rw [if_pos ij]
 have f2:oM to {v with jp:=false}=none:=rfl
 have hp:=Bm (l:=vw) (x':={v with jp:=false}) hv f1 f2
 have hc:∀j,FN (vw.set k {v with jp:=false}) j+(if v.id=j then 1 else 0)=FN vw j:=fun j=>by
  have:=An (p:=fun v:VD=>v.jp&&decide (v.id=j)) (x':={v with jp:=false}) hv
  unfold FN
  rw [ij]at this
  simpa using this
 have h1:=hc v.id
 rw [if_pos rfl]at h1
 have q:=c.cv v.id t ht
 refine⟨⟨?_,fun w hw=>?_,fun y hy j hj=>by rw [el];exact c.hp y hy j hj,c.lp,fun j t0 h=>?_⟩,by omega⟩
 ·refine It.drop (r0:=Eh to v.id) (c.c.lS ?_)
  unfold HS
  exact((hp.append_right _).symm)
 ·rw [el]
  rcases dB hw with h|h
  ·exact c.Nl w h
  ·rw [h];exact⟨(c.Nl v hm).1,fun h=>by cases h⟩
 ·rcases kQ h with⟨rfl,rfl,_⟩|⟨hj,h⟩
  ·exact⟨by show t.vw-1=_;omega,q.2⟩
  ·have h2:=hc j
   rw [if_neg (fun e=>hj e.symm)]at h2
   obtain⟨q1,q2⟩:=c.cv j t0 h
   exact⟨by omega,q2⟩
theorem HC.BC(c:HC bC W vo to lv vw ho lo)(ht:W.de[i]?=some t):HC (ix bC (Eh to i)) (W.gJ i {t with hd:=t.hd+1}) vo to lv vw (ho++[⟨RS.dV bC+1,some i⟩]) lo:=by
 have iZ:=(bp.1 ht).1
 have el:(W.gJ i {t with hd:=t.hd+1}).de.length=W.de.length:=cd
 refine⟨(c.c.add (r0:=Eh to i)).lS ?_,fun v hv=>by rw [el];exact c.Nl v hv,fun y hy j hj=>?_,c.lp,fun j t0 h=>?_⟩
 ·unfold HS
  rw [jv]
  have e:([⟨RS.dV bC+1,some i⟩]:List zg).filterMap (pV to)=[(RS.dV bC,Eh to i)]:=rfl
  rw [e,ce,←ce]
  exact gT.trans (by rw [ce];exact fT _)
 ·rw [el]
  rcases bI.1 hy with h|h
  ·exact c.hp y h j hj
  ·rw [bM.1 h]at hj ⊢
   rw [←bt hj]
   exact⟨iZ,sB _⟩
 ·rcases kQ h with⟨rfl,rfl,_⟩|⟨hj,h⟩
  ·obtain⟨q1,q2⟩:=c.cv j t ht
   rw [M0,if_pos rfl]
   exact⟨q1,by show t.hd+1=_;omega⟩
  ·obtain⟨q1,q2⟩:=c.cv j t0 h
   rw [M0,if_neg (fun e=>hj (bt e).symm)]
   exact⟨q1,q2⟩
theorem HC.Bs(c:HC bC W vo to lv vw ho lo)(hx:ho[k]?=some x)(hi:x.id=some i)(ht:W.de[i]?=some t):HC (bC.set (x.n-1) none) (W.gJ i {t with hd:=t.hd-1}) vo to lv vw (ho.set k {x with id:=none}) lo∧1≤t.hd:=by
 have el:(W.gJ i {t with hd:=t.hd-1}).de.length=W.de.length:=cd
 have f1:pV to x=some (x.n-1,Eh to i):=by unfold pV;rw [hi];rfl
 have f2:pV to {x with id:=none}=none:=rfl
 have hp:=Bm (l:=ho) (x':={x with id:=none}) hx f1 f2
 have hc:∀j,FO (ho.set k {x with id:=none}) j+(if i=j then 1 else 0)=FO ho j:=fun j=>by
  have:=An (p:=fun y:zg=>decide (y.id=some j)) (x':={x with id:=none}) hx
  unfold FO
  rw [hi]at this
  simpa using this
 have h1:=hc i
 rw [if_pos rfl]at h1
 have q:=c.cv i t ht
 refine⟨⟨?_,fun w hw=>by rw [el];exact c.Nl w hw,fun y hy j hj=>?_,c.lp,fun j t0 h=>?_⟩,by omega⟩
 ·refine It.drop (r0:=Eh to i) (c.c.lS ?_)
  unfold HS
  have h2:=((hp.append_right (((W.gy.zip lv).zip lo).filterMap (pu vo))).append_left (vw.filterMap (oM to))).symm
  exact gT.symm.trans h2
 ·rw [el]
  rcases dB hy with h|h
  ·exact c.hp y h j hj
  ·rw [h]at hj;cases hj
 ·rcases kQ h with⟨rfl,rfl,_⟩|⟨hj,h⟩
  ·exact⟨q.1,by show t.hd-1=_;omega⟩
  ·have h2:=hc j
   rw [if_neg (fun e=>hj e.symm)]at h2
   obtain⟨q1,q2⟩:=c.cv j t0 h
   exact⟨q1,by omega⟩
theorem HC.BB {bs:Sl}{z w:Nat}(c:HC bC W vo to lv vw ho lo)(ll:lv.length=W.gy.length)(hz:0<z):HC (ix bC (vo.getD w 0)) {W with gy:=W.gy++[z],bs:=bs} vo to (lv++[w]) vw ho (lo++[RS.dV bC+1]):=by
 refine⟨(c.c.add (r0:=vo.getD w 0)).lS ?_,c.Nl,c.hp,⟨by rw [bG,c.lp.1];show _=(W.gy++[z]).length;rw [bG];rfl,fun n hn=>?_⟩,c.cv⟩
 ·unfold HS
  show (vw.filterMap (oM to)++(ho.filterMap (pV to)++(((W.gy++[z]).zip (lv++[w])).zip (lo++[RS.dV bC+1])).filterMap (pu vo))).Perm _
  rw [rJ ll.symm,rJ (by rw [rK,ll,Nat.min_self,c.lp.1]),jv]
  have e:((([z].zip [w]):List (Nat × Nat)).zip [RS.dV bC+1]).filterMap (pu vo)=[(RS.dV bC,vo.getD w 0)]:=by
   show (([((z,w),RS.dV bC+1)]:List ((Nat × Nat) × Nat))).filterMap (pu vo)=_
   have:pu vo ((z,w),RS.dV bC+1)=some (RS.dV bC,vo.getD w 0):=by unfold pu;rw [if_pos hz];rfl
   rw [iw,this];rfl
  rw [e,←ce,←ce]
  exact(ju).trans (by rw [ce];exact fT _)
 ·rcases bI.1 hn with h|h
  ·exact c.lp.2 n h
  ·rw [bM.1 h];exact sB _
theorem HC.xZ {z w n:Nat}(c:HC bC W vo to lv vw ho lo)(hz:W.gy[k]?=some z)(h0:0<z)(hw:lv[k]?=some w)(hn:lo[k]?=some n):HC (bC.set (n-1) none) {W with gy:=W.gy.set k 0} vo to lv vw ho lo:=by
 have hq:((W.gy.zip lv).zip lo)[k]?=some ((z,w),n):=d6.2 ⟨d6.2 ⟨hz,hw⟩,hn⟩
 have f1:pu vo ((z,w),n)=some (n-1,vo.getD w 0):=by unfold pu;rw [if_pos h0]
 have f2:pu vo ((0,w),n)=none:=rfl
 have hp:=Bm (l:=(W.gy.zip lv).zip lo) (x':=((0,w),n)) hq f1 f2
 have es:(((W.gy.set k 0).zip lv).zip lo)=((W.gy.zip lv).zip lo).set k ((0,w),n):=by
  apply cG
  intro j
  by_cases e:k=j
  ·subst e
   have hl:=(bp.1 hq).1
   rw [cE hl]
   exact d6.2 ⟨d6.2 ⟨cE (bp.1 hz).1,hw⟩,hn⟩
  ·rw [dl e]
   exact Hg (Hg (dl e))
 refine⟨?_,c.Nl,c.hp,⟨by show lo.length=(W.gy.set k 0).length;rw [cd];exact c.lp.1,c.lp.2⟩,c.cv⟩
 refine It.drop (r0:=vo.getD w 0) (c.c.lS ?_)
 unfold HS
 show ((n-1,vo.getD w 0)::(vw.filterMap (oM to)++(ho.filterMap (pV to)++(((W.gy.set k 0).zip lv).zip lo).filterMap (pu vo)))).Perm _
 rw [es,←ce,←ce]
 exact gT.symm.trans ((hp.append_left _).symm)
end
structure PL where
 hB:Hp
 W:DW
 q:HQ
 s:RS
 nd:List di
 vo:LN
 to:List TD
 lv:LN
 Y:Mem
 wb:Nat
 vw:List VD
 ho:List zg
 lo:LN
 rZ:Sl
 vg:Sl
 HM:Sl
def mB(v:VD):LV:=[vp (sa v.tb),wv v.id,vb v.jp]
def xM(x:zg):LV:=[wv x.n,vi (match x.id with|some i=>(i:Int)|none=>-1)]
theorem uG(v:VD):(mB v).length=3:=rfl
theorem vh(v:zg):(xM v).length=2:=rfl
structure PB (h:Hp) (D:PL):Prop where
 k:bY N D.hB h
 r:∀b,D.q.bR b≠.out→D.hB.size≤b
 o:∀b,D.Y.own b→D.hB.size≤b
 v:∀w∈D.vw,D.hB.size≤w.tb
structure PM (h:Hp) (pb:Nat) (D:PL):Prop where
 l0:D.Y.loc 0=some pb
 c0:D.Y.fM 0=[vp (sa D.q.hb),vp (sa D.wb),.slice D.rZ.a D.rZ.n D.rZ.c,.slice D.vg.a D.vg.n D.vg.c,.slice D.HM.a D.HM.n D.HM.c]
 wm:WM h D.Y D.wb D.W
 F5:kO 3 D.Y 5 D.rZ (D.vw.flatMap mB)
 hi:kO 2 D.Y 6 D.vg (D.ho.flatMap xM)
 li:kO 1 D.Y 7 D.HM (D.lo.map wv)
 own:∀b,D.Y.own b→D.q.bR b=.out∧b≠BF∧∀v∈D.vw,v.tb≠b
 su:∀t∈D.W.de,∀e∈t.es,D.q.bR e.c=.out∧∀v∈D.vw,v.tb≠e.c
 Hj:(D.vw.map (·.tb)).Nodup∧∀v∈D.vw,v.tb≠BF
 bs:PB h D
structure PR (h:Hp) (D:PL):Prop where
 g:Gs h D.q D.s D.nd
 tz:Tz h D.q
 mA:∀v∈D.vw,ti h D.q v.tb (if v.jp then v.hn else 0)∧v.hn<1000000000
structure PW (D:PL) (k:Nat):Prop where
 pg:qK D.nd D.s.bC D.W D.vo D.to D.lv
 hc:HC D.s.bC D.W D.vo D.to D.lv D.vw D.ho D.lo
 wv:WV D.W
 iN:D.s.cM=D.W.iN
 n1:1≤D.nd.length
 rl:D.s.bC.length≤4*k+4
 bd:D.W.eX.length≤k+1∧D.W.de.length≤k∧D.W.gy.length≤k∧D.vw.length≤k∧D.ho.length≤k
structure Pl (h:Hp) (pb:Nat) (D:PL) (k:Nat):Prop where
 m:PM h pb D
 r:PR h D
 w:PW D k
section
variable {h h' h2:Hp} {pb k i:Nat} {D:PL} {q':HQ} {s':RS} {gm:List di} {v:VD} {x:zg} {T:TD} {t:DT}
theorem PM.cI(x:PM h pb D)(kk:bY N h h'):PM h' pb D:=⟨x.l0,x.c0,x.wm.cI kk,x.F5,x.hi,x.li,x.own,x.su,x.Hj,⟨x.bs.k.trans kk,x.bs.r,x.bs.o,x.bs.v⟩⟩
theorem PR.cI(x:PR h D)(kk:bY N h h'):PR h' D:=⟨x.g.cI kk,x.tz.cI kk,fun v hv=>⟨(x.mA v hv).1.cI kk,(x.mA v hv).2⟩⟩
theorem Pl.cI(x:Pl h pb D k)(kk:bY N h h'):Pl h' pb D k:=⟨x.m.cI kk,x.r.cI kk,x.w⟩
theorem PW.mono {k2:Nat}(x:PW D k)(h:k≤k2):PW D k2:=⟨x.pg,x.hc,x.wv,x.iN,x.n1,by have:=x.rl;omega,by have:=x.bd;omega⟩
theorem PM.ex(x:PM h pb D)(e:Ex h D.q h' q'):PM h' pb {D with q:=q',s:=s',nd:=gm}:=by
 have kk:=e.gK
 have lt:∀b,D.Y.own b→b<h.size:=fun b hb=>x.wm.sp.zT hb
 have sp:Sep h' D.Y:=x.wm.sp.eG kk fun b hb z=>z (x.own b hb).1
 refine⟨x.l0,by show D.Y.fM 0=[vp (sa q'.hb),_,_,_,_];rw [e.1];exact x.c0,⟨sp,x.wm.l1,x.wm.c1,x.wm.va,x.wm.ta,x.wm.ba,fun i t ht=>?_⟩,x.F5,x.hi,x.li,fun b hb=>?_,fun t ht e' he=>?_,x.Hj,⟨cL x.bs.k kk fun b hb=>x.bs.r b hb,fun b hb=>?_,x.bs.o,x.bs.v⟩⟩
 ·exact(x.wm.tm i t ht).eG kk fun e he z=>z (x.su t (bx ht) e he).1
 ·obtain⟨a,b',c⟩:=x.own b hb
  exact⟨e.out (lt b hb) a,b',c⟩
 ·obtain⟨i,hi⟩:=bT.1 ht
  obtain⟨a,b⟩:=x.su t ht e' he
  exact⟨e.out (eE ((x.wm.tm i t hi).ks e' he).1) a,b⟩
 ·rcases eS b h.size with hl|hl
  ·exact x.bs.r b fun ho=>hb (e.out hl ho)
  ·exact bP x.bs.k.1 hl
theorem PR.ex(x:PR h D)(g:Gs h' q' s' gm)(e:Ex h D.q h' q'):PR h' {D with q:=q',s:=s',nd:=gm} :=
 ⟨g,x.tz.ex e,fun v hv=>⟨(x.mA v hv).1.ex e,(x.mA v hv).2⟩⟩
theorem PR.own(x:PR h D)(m:PM h pb D){Y':Mem}(c:ui h D.Y h' Y'):PR h' D:=by
 refine⟨x.g.HP c.1 fun b hb=>(m.own b hb).1,⟨bF c.1 x.tz.row fun z=>(m.own _ z).2.1 rfl,x.tz.out⟩,fun v hv=>⟨⟨bF c.1 (x.mA v hv).1.row fun z=>(m.own _ z).2.2 v hv rfl,(x.mA v hv).1.out⟩,(x.mA v hv).2⟩⟩
theorem ui.VC(x:PM h pb D)(r:PR h D){Y':Mem}(c:ui h D.Y h' Y'):∀b,Y'.own b→D.q.bR b=.out∧b≠BF∧∀v∈D.vw,v.tb≠b:=fun b hb=>by
 rcases c.2 b hb with h1|h1
 ·exact x.own b h1
 ·refine⟨r.g.st.fr h1,fun e=>?_,fun v hv e=>?_⟩
  ·have:=eE r.tz.row;omega
  ·have:=eE (r.mA v hv).1.row;omega
theorem PB.own(x:PB h D){Y':Mem}(c:ui h D.Y h' Y'):bY N D.hB h'∧∀b,Y'.own b→D.hB.size≤b :=
 ⟨cL x.k c.1 x.o,fun b hb=>(c.2 b hb).elim (x.o b) fun h=>bP x.k.1 h⟩
theorem PM.cl(x:PM h pb D)(o:Nat):cell h ((ad pb).add o)=([vp (sa D.q.hb),vp (sa D.wb),.slice D.rZ.a D.rZ.n D.rZ.c,.slice D.vg.a D.vg.n D.vg.c,.slice D.HM.a D.HM.n D.HM.c]:LV)[o]?:=by rw [x.wm.sp.FP x.l0,x.c0]
theorem PM.BH(x:PM h pb D):cell h (ad pb)=some (vp (sa D.q.hb)):=by rw [x.wm.sp.Zd x.l0,x.c0];rfl
theorem PM.vn(x:PM h pb D):D.rZ.n=D.vw.length:=by have:=x.F5.len;rw [gN uG]at this;omega
theorem PM.hn(x:PM h pb D):D.vg.n=D.ho.length:=by have:=x.hi.len;rw [gN vh]at this;omega
theorem PM.ln(x:PM h pb D):D.HM.n=D.lo.length:=by have:=x.li.len;rw [bA]at this;omega
theorem PM.Qd(x:PM h pb D)(hv:D.vw[i]?=some v):∃b,D.Y.loc 5=some b∧D.rZ.a=some (ad b)∧∀o,o<3→cell h (((ad b).add (i*3)).add o)=(mB v)[o]?:=by
 have yL:=fun o (ho:o<3)=>ml uG D.vw i o v hv ho
 obtain⟨b,hb,ha,_⟩:=x.F5.at x.wm.sp ((yL 0 (by omega)).trans rfl)
 refine⟨b,hb,ha,fun o ho=>?_⟩
 obtain⟨z,hz⟩:∃z,(mB v)[o]?=some z:=⟨_,br (by rw [uG];exact ho)⟩
 obtain⟨b',fV,_,c⟩:=x.F5.at x.wm.sp ((yL o ho).trans hz)
 rw [hb]at fV
 obtain rfl:=bt fV
 rw [cm,kD,c,hz]
theorem PM.yL(y:PM h pb D)(hv:D.ho[i]?=some x):∃b,D.Y.loc 6=some b∧D.vg.a=some (ad b)∧∀o,o<2→cell h (((ad b).add (i*2)).add o)=(xM x)[o]?:=by
 have yL:=fun o (ho:o<2)=>ml vh D.ho i o x hv ho
 obtain⟨b,hb,ha,_⟩:=y.hi.at y.wm.sp ((yL 0 (by omega)).trans rfl)
 refine⟨b,hb,ha,fun o ho=>?_⟩
 obtain⟨z,hz⟩:∃z,(xM x)[o]?=some z:=⟨_,br (by rw [vh];exact ho)⟩
 obtain⟨b',fV,_,c⟩:=y.hi.at y.wm.sp ((yL o ho).trans hz)
 rw [hb]at fV
 obtain rfl:=bt fV
 rw [cm,kD,c,hz]
theorem PM.lat(y:PM h pb D){n:Nat}(hv:D.lo[i]?=some n):∃b,D.HM.a=some (ad b)∧cell h ((ad b).add i)=some (wv n):=by
 obtain⟨b,_,ha,hc⟩:=y.li.at y.wm.sp (o:=i) (v:=wv n) (by rw [bD,hv];rfl)
 exact⟨b,ha,by rw [cm];exact hc⟩
theorem Pl.jp(x:Pl h pb D k)(hv:v∈D.vw)(ho:v.jp=true):∃t T,D.W.de[v.id]?=some t∧D.to[v.id]?=some T∧t.ib=true∧lZ D.nd D.vo t T∧(∀y∈T.dN,y∉D.vo)∧qA h D.q D.s D.nd v.tb v.hn T:=by
 obtain⟨h1,h2⟩:=x.w.hc.Nl v hv
 have ht:D.W.de[v.id]?=some (D.W.de[v.id]'h1):=br h1
 have hT:D.to[v.id]?=some (D.to[v.id]'(by rw [x.w.pg.tl];exact h1)):=br (by rw [x.w.pg.tl];exact h1)
 generalize D.W.de[v.id]'h1=t at ht
 generalize D.to[v.id]'(by rw [x.w.pg.tl];exact h1)=T at hT
 have hl:t.ib=true:=(yi x.w.hc ht).2 (.inl ⟨v,hv,ho,rfl⟩)
 obtain⟨r,d⟩:=x.w.pg.tb v.id t T ht hT hl
 have l:=(x.r.mA v hv)
 rw [if_pos ho]at l
 refine⟨t,T,ht,hT,hl,r,d,x.r.g,l.1,h2 ho,l.2,?_,r.c,x.r.tz⟩
 refine(x.w.hc.c.ch _ _).2 (bW _ (ft.2 ⟨v,hv,?_⟩))
 unfold oM
 rw [if_pos ho,xp hT]
theorem Pl.Em(x:Pl h pb D k)(hv:v∈D.vw)(ho:v.jp=false):ti h D.q v.tb 0:=by
 have l:=(x.r.mA v hv).1
 rw [ho]at l
 exact l
end
structure Kd where
 uE:Int
 t:Int
 u:Int
 key:Sl
 mN:Sl
 n:Int
 w:Int
 c:Nat
 a:Nat
 b:Nat
def Kd.cells(o:Kd):LV:=[vi o.uE,vi o.t,vi o.u,.slice o.key.a o.key.n o.key.c,.slice o.mN.a o.mN.n o.mN.c,vi o.n,vi o.w,uv o.c,uv o.a,uv o.b]
structure ZU (o:Kd):Prop where
 n:-9223372036854775808≤o.n∧o.n<9223372036854775808
 c:o.c<18446744073709551616
 a:o.a<18446744073709551616
 b:o.b<18446744073709551616
section
variable {h h' h2 g:Hp} {pb k:Nat} {D:PL} {nd:List di} {R:RP} {v:VD} {x:zg} {T:TD} {t:DT} {vo:LN} {o:Kd} {es:List DE}
theorem lZ.oo(r:lZ nd vo t T)(hp:(t.es.map DE.hk).Pairwise kV):T.oo=t.es.map DE.hk:=by
 refine Cb (T.sU.trans ?_) r.k.pw hp
 have:=r.es.symm.map fun q:Sb=>((q.1,q.2.1):HK)
 rw [fh,fh]at this
 exact this
theorem lZ.oS(r:lZ nd vo t T)(hp:(t.es.map DE.hk).Pairwise kV) (f:Nat):T.oS f=sX t.es f:=by
 unfold TD.oS sX
 rw [r.oo hp]
theorem I3 {a b:List (LN)} (p:a.Perm b) (hn:a.Nodup) (ha:a.Pairwise HN) (hb:b.Pairwise fun x y=>oD x y=true):a=b:=by
 have fV:b.Pairwise HN:=by
  refine(pP (p.nodup_iff.1 hn) hb).imp fun {x y} h=>?_
  have h2:i0 x y≤0:=of_decide_eq_true h.2
  have h3:i0 x y≠0:=fun e=>h.1 (ug e)
  unfold HN
  omega
 exact BW p (fun x _ y _ h1 h2=>by
  have h1:i0 x y<0:=h1
  have h2:i0 y x<0:=h2
  rw [Bt]at h2
  omega) ha fV
structure ajn (h:Hp) (tb:Nat) (es:List DE):Prop where
 aqK:∀(g:Hp) (f:Nat) (z:Int) (R:RP),bY N h g→f<18446744073709551616→(∀a g' ks,KS g' a ks→ks=(jZ (mR z) (sX es f) 0 []).2→ks.length<100000000→bY N g g'→R (vt #[uv (jZ (mR z) (sX es f) 0 []).1,.slice a.a a.n a.c]) g')→bq PG 30 #[vp (sa tb),uv f,vi z] g R
 su:∀(g:Hp) (R:RP),bY N h g→(∀a g' ks,KS g' a ks→ks.Perm (es.map (·.key))→ks.Pairwise HN→ks.Nodup→bY N g g'→R (.slice a.a a.n a.c) g')→bq PG 26 #[vp (sa tb)] g R
 some:∀(g:Hp) (z:Int) (R:RP),bY N h g→(∀a g' ks,KS g' a ks→ks=wI z (es.map (·.key))→bY N g g'→R (.slice a.a a.n a.c) g')→bq PG 33 #[vp (sa tb),vi z] g R
theorem KH {n:Nat}:∀(l:List HK) (mP:Nat) (vG:List (LN)),(jZ n l mP vG).2.length≤vG.length+l.length
 | [],_,vG=>by simp [jZ]
 | (h,k)::l,mP,vG=>by
  rw [jZ]
  split
  ·simp
  ·have:=KH (n:=n) l h (vG++[k])
   simp at this ⊢
   omega
theorem Hv {n:Nat}:∀(l:List HK) (mP:Nat) (vG:List (LN)),∀x∈(jZ n l mP vG).2,x∈vG∨x∈l.map (·.2)
 | [],_,vG,x,hx=>.inl (by simpa [jZ]using hx)
 | (h,k)::l,mP,vG,x,hx=>by
  rw [jZ]at hx
  split at hx
  ·exact .inl hx
  ·rcases Hv (n:=n) l h (vG++[k]) x hx with h1|h1
   ·rcases bI.1 h1 with h2|h2
    ·exact .inl h2
    ·right;rw [bM.1 h2];exact bQ ..
   ·exact .inr (bJ _ h1)
theorem Pl.aky(x:Pl h pb D k)(hv:v∈D.vw)(ho:v.jp=true)(ht:D.W.de[v.id]?=some t):ajn h v.tb t.es:=by
 obtain⟨t',T,LB,hT,hl,r,_,op⟩:=x.jp hv ho
 rw [ht]at LB
 obtain rfl:=bt LB
 obtain⟨tv,_⟩:=x.w.wv.es t (bx ht)
 have o0:∀y∈T.dc,y.key.length≤4096:=fun y hy=>(r.c.okb hy).len
 have eH:=r.oo tv.pw
 have ek:T.oo.map (·.2)=t.es.map (·.key):=by rw [eH,fh];rfl
 have kl:∀y∈t.es.map (·.key),y.length<140737488355328:=fun y hy=>by
  obtain⟨e,he,rfl⟩:=cy.1 hy
  have:=(tv.hs e he).2.2
  omega
 have amV:∀f,∀y∈(sX t.es f).map (·.2),y∈t.es.map (·.key):=fun f y hy=>by
  obtain⟨q,hq,rfl⟩:=cy.1 hy
  obtain⟨e,he,rfl⟩:=cy.1 (dU.1 hq).1
  exact cy.2 ⟨e,he,rfl⟩
 refine⟨fun g f z R kg hf hR=>?_,fun g R kg hR=>?_,fun g z R kg hR=>?_⟩
 ·refine ac3 (op.cI kg) r.k hf z fun a ob gw g' bl el e8 k'=>?_
  rw [r.oS tv.pw]at el ⊢
  refine hR a g' (gw.map (·.key)) (bl.KA fun y hy=>?_) el ?_ k'
  ·have:y.key∈(jZ (mR z) (sX t.es f) 0 []).2:=el▸cy.2 ⟨y,hy,rfl⟩
   rcases Hv _ _ _ _ this with h1|h1
   ·cases h1
   ·exact kl _ (amV f _ h1)
  ·rw [el]
   have h1:=KH (n:=mR z) (sX t.es f) 0 []
   have h2:(sX t.es f).length≤t.es.length:=by
    unfold sX
    refine bP (dT _ _) ?_
    rw [bA];exact bH _
   have:=tv.ln
   simp at h1
   omega
 ·refine akv (op.cI kg) r.k fun a ob gw g' bl p s e8 k'=>?_
  have pe:(T.dc.map (·.key)).Perm (t.es.map (·.key)):=by
   have:=r.es.symm.map fun q:Sb=>q.2.1
   rw [fh,fh]at this
   exact this
  refine hR a g' (gw.map (·.key)) (bl.KA fun y hy=>kl _ ((p.trans pe).mem_iff.1 (cy.2 ⟨y,hy,rfl⟩))) (p.trans pe) s (p.nodup_iff.2 r.k.ku) k'
 ·refine akn (op.cI kg) r.k z fun a ob gw g' bl el e8 k'=>?_
  rw [ek]at el
  refine hR a g' (gw.map (·.key)) (bl.KA fun y hy=>?_) el k'
  have:y.key∈wI z (t.es.map (·.key)):=el▸cy.2 ⟨y,hy,rfl⟩
  unfold wI at this
  split at this
  ·exact kl _ this
  ·exact kl _ (dK this)
theorem Pl.akz(x:Pl h pb D k)(hv:v∈D.vw)(ho:v.jp=false):ajn h v.tb []:=by
 have l:=x.Em hv ho
 refine⟨fun g f z R kg hf hR=>UB (l.cI kg) z fun g' k'=>hR ⟨none,0,0⟩ g' [] (KS.nil g') rfl (Nat.zero_lt_succ _) k',fun g R kg hR=>aga (l.cI kg) fun g' k'=>hR ⟨none,0,0⟩ g' [] (KS.nil g') (fT _) List.Pairwise.nil gQ k',fun g z R kg hR=>af5 (x.r.g.cI kg) (l.cI kg) z fun g' k'=>hR ⟨none,0,0⟩ g' [] (KS.nil g') ?_ k'⟩
 unfold wI
 split<;>simp
theorem UE {x4 x5 jY tb i4:Nat}{b4:Bool}(r4:eM h x4 [vp (sa tb),wv i4,vb b4]) (r5:eM h x5 o.cells) (ov:ZU o) (tl:ajn h tb es) (ea:Nj h jY es) (hR:∀h',bY N h h'→R (vb true) h'):JL (ad x4) (ad x5) (sa jY) h R:=by
 have ln:=ea.ln
 have c5:∀ {g:Hp},bY N h g→∀j,cell g ((ad x5).add j)=o.cells[j]?:=fun kg j=>by rw [cm];exact bS (bF kg r5 _root_.id) j
 have kr:=bY.refl N h
 unfold JL
 refine⟨_,(bS r5 0).trans rfl,?_⟩
 by_cases Dq:o.uE=10
 ·refine cr (beq_iff_eq.2 Dq) ⟨_,(bS r4 0).trans rfl,_,(c5 kr 7).trans rfl,_,(c5 kr 5).trans rfl,tl.aqK h o.c o.n _ kr ov.c fun a g' ks kx ek kl k'=>⟨_,a,rfl,_,(c5 k' 7).trans rfl,_,(c5 k' 5).trans rfl,?_⟩⟩
  refine YX (f:=o.c) (ea.cI k') o.n ov.n fun c ob gw g2 bl el e8 k2=>⟨_,c,rfl,cr (beq_self_eq_true _) ?_⟩
  refine JR (kx.cI k2) (bl.KA fun y hy=>by have:=(e8 y hy).1;omega) (by omega) ⟨_,rfl,?_⟩
  rw [el,←ek,decide_eq_true rfl]
  exact hR g2 (k'.trans k2)
 ·refine cj (beq_eq_false_iff_ne.2 Dq) ?_
  by_cases Aj:o.uE=11
  ·refine cr (beq_iff_eq.2 Aj) ⟨_,(bS r4 0).trans rfl,tl.su h _ kr fun a g' ks kx kp Q0 kn k'=>⟨a,rfl,aoJ (ea.cI k') fun c g2 ks2 ky p2 s2 k2=>⟨c,rfl,?_⟩⟩⟩
   have e:=I3 (kp.trans p2.symm) kn Q0 s2
   have hl:=kp.length_eq
   rw [bA]at hl
   refine JR (kx.cI k2) ky (by omega) ⟨_,rfl,?_⟩
   rw [decide_eq_true e]
   exact hR g2 (k'.trans k2)
  ·refine cj (beq_eq_false_iff_ne.2 Aj) ⟨_,(bS r4 0).trans rfl,_,(c5 kr 5).trans rfl,tl.some h o.n _ kr fun a g' ks kx ek k'=>⟨a,rfl,?_⟩⟩
   have ea':=ea.cI k'
   obtain⟨sl,hc,Kl,_⟩:=ea'.ex
   refine bw ⟨sl,hc,?_⟩
   rw [Kl]
   refine YX (f:=0) ea' _ (by omega) fun c ob gw g2 bl el e8 k2=>⟨_,c,rfl,_,(c5 (k'.trans k2) 5).trans rfl,?_⟩
   rw [Ib]at el
   have AJ:gw.length=es.length:=by have:=congrArg List.length el;rw [bA,bA]at this;exact this
   have ky:=bl.KA fun y hy=>by have:=(e8 y hy).1;omega
   rw [el]at ky
   have kx2:=kx.cI k2
   have nA:∀ {c':Sl} {ks2:List (LN)},KS g2 c' ks2→ks2=ks→JJ a c' g2 R:=fun {c' ks2} ky e=>by
    unfold JJ
    refine JR kx2 ky ?_ ⟨_,rfl,?_⟩
    ·rw [ek]
     unfold wI
     split
     ·rw [bA];omega
     ·rw [dm,bA];omega
    ·rw [decide_eq_true e.symm]
     exact hR g2 (k'.trans k2)
   have cn:=bl.len
   refine ca (fun o5=>?_) fun fE=>?_
   ·refine⟨_,(c5 (k'.trans k2) 5).trans rfl,?_⟩
    unfold JK
    refine ca (fun fE=>?_) fun hnl=>?_
    ·have hc:=ky.cap
     refine⟨_,(c5 (k'.trans k2) 5).trans rfl,(by omega),(by omega),?_⟩
     refine nA (c':=⟨_,_,_⟩) (ky.take (m:=o.n.toNat) (by rw [bA];omega)) ?_
     rw [ek]
     unfold wI
     rw [if_neg (by omega)]
    ·refine nA ky ?_
     rw [ek]
     unfold wI
     rw [if_neg (by omega),eT (by rw [bA];omega)]
   ·unfold JK
    refine cj rfl (nA ky ?_)
    rw [ek]
    unfold wI
    rw [if_pos (by omega)]
end
def an9(d:Sl)(h:Hp)(R:RP):Prop:=bX (Option.isNone d.a) (R (.slice none 0 0:Value) h) (bq PG 106 #[.slice d.a d.n d.c] h fun r e=>∃b:Sl,r=.slice b.a b.n b.c∧R (.slice b.a b.n b.c:Value) e)
theorem ab4 {a0:Sl}{h:Hp}{R:RP}(hF:an9 a0 h R):bq PG 59 #[vl a0] h R:=iY (lv:=kw) Tryz.func59 hF
section
variable {h h' h2 g:Hp} {pb k:Nat} {D:PL} {nd:List di} {R:RP} {v:VD} {x:zg} {T:TD} {t:DT} {vo:LN} {o:Kd} {es:List DE} {key:LN}
theorem UD(x:Pl h pb D k)(hv:v∈D.vw)(ov:ZU o)(hR:∀h',bY N h h'→R (vb true) h'):bq PG 103 #[vp (sa pb),.agg (mB v).toArray,.agg o.cells.toArray] h R:=by
 refine YK (mq:=some (ad v.tb)) (mn:=(v.id:Int)) (nF:=v.jp) (AF:=o.uE) (AE:=o.t) (AD:=o.u) (AC:=o.key) (AB:=o.mN) (AA:=o.n) (Az:=o.w) (Ay:=(o.c:Int)) (Ax:=(o.a:Int)) (Aw:=(o.b:Int)) ?_
 unfold afz
 refine dh fun h1 e1=>dh fun h2 e2=>dh fun h3 e3=>?_
 have k1:bY N h h1:=e1▸cF _ _ _
 have k2:bY N h1 h2:=e2▸cF _ _ _
 have k3:bY N h2 h3:=e3▸cF _ _ _
 have r4:eM h1 h.size (mB v):=e1▸du h #[vp (sa v.tb),wv v.id,vb v.jp] 172
 have r5:eM h2 h1.size o.cells:=by
  rw [e2]
  exact du h1 #[vi o.uE,vi o.t,vi o.u,.slice o.key.a o.key.n o.key.c,.slice o.mN.a o.mN.n o.mN.c,vi o.n,vi o.w,uv o.c,uv o.a,uv o.b] 89
 have r6:eM h3 h2.size [vu 0,.slice none 0 0,vi 0,vi 0,vi 0,vi 0,vi 0]:=e3▸du h2 #[vu 0,.slice none 0 0,vi 0,vi 0,vi 0,vi 0,vi 0] 221
 clear e1 e2 e3
 have kk:=k1.trans (k2.trans k3)
 have r4:=bF (k2.trans k3) r4 _root_.id
 have r5:=bF k3 r5 _root_.id
 have x3:=x.cI kk
 rw [show nb h=ad h.size from rfl,show nb h1=ad h1.size from rfl,show nb h2=ad h2.size from rfl]
 refine⟨v.jp,ia r4 rfl,?_⟩
 cases ho:v.jp with
 |false =>
  have r4:eM h3 h.size [vp (sa v.tb),wv v.id,vb v.jp]:=r4
  exact cj rfl (UE r4 r5 ov (x3.akz hv ho) (YP r6 rfl) fun h' k'=>hR h' (kk.trans k'))
 |true =>
  obtain⟨h1',Rb⟩:=x3.w.hc.Nl v hv
  have ht:D.W.de[v.id]?=some (D.W.de[v.id]'h1'):=br h1'
  generalize D.W.de[v.id]'h1'=t at ht
  obtain⟨b,ha,hc⟩:=x3.m.wm.tat ht
  have tn:=x3.m.wm.tn
  obtain⟨tv,_⟩:=x3.w.wv.es t (bx ht)
  refine cr rfl (bw ⟨_,(x3.m.cl 1).trans rfl,bw ⟨D.W.ts,(x3.m.wm.cl 2).trans rfl,_,ia r4 rfl,(by omega),cW ha ⟨_,by rw [bu,cQ];exact hc,?_⟩⟩⟩)
  have r4:eM h3 h.size [vp (sa v.tb),wv v.id,vb v.jp]:=r4
  exact UE r4 r5 ov (x3.aky hv ho ht) ((x3.m.wm.tm v.id t ht).auw x3.m.wm.sp tv) fun h' k'=>hR h' (kk.trans k')
theorem amf(x:Pl h pb D k){val id:Nat}(AI:D.vo[val]?=some id)(hh:id=0∨D.s.da id)(hR:∀h',bY N h h'→R (vb true) h'):bq PG 151 #[vp (sa pb),uv (D.s.fk id),vi (val:Nat)] h R:=by
 refine X7 ?_
 unfold ae4
 by_cases h0:val=0
 ·subst h0
  rw [x.w.pg.v0]at AI
  obtain rfl:=bt AI
  refine cr rfl ?_
  rw [RS.iQ]
  exact hR h (bY.refl _ _)
 ·have hl:=(bp.1 AI).1
  rw [x.w.pg.mA]at hl
  obtain⟨o,z,ho,hz,hn,iS,h2⟩:=x.w.pg.Hl (by omega:1≤val) hl
  rw [AI]at ho
  obtain rfl:=bt ho
  have hh:=hh.resolve_left iS
  have vn:=x.m.wm.vn
  obtain⟨b,ha,c1,c2⟩:=x.m.wm.Qd hz
  have awn:=x.w.wv.vz z (bx hz)
  refine cj (beq_eq_false_iff_ne.2 (by omega)) (bw ⟨_,x.m.BH,QH x.r.g hn hh ⟨_,_,_,_,rfl,bw ⟨_,x.m.BH,?_⟩⟩⟩)
  refine Vu x.r.g hn hh (k:=0) (w:=z.2) rfl rfl ⟨_,_,rfl,?_⟩
  refine cr rfl (cr rfl (cr rfl (cr rfl (bw ⟨_,(x.m.cl 1).trans rfl,bw ⟨D.W.vs,(x.m.wm.cl 1).trans rfl,(by omega),cW ha ⟨_,by rw [bu];exact c1,?_⟩⟩⟩))))
  have er:(((zM z).cN.length:Nat):Int)=wrap .i64 ((z.1:Int)-(1:Int)):=by
   rw [bU (by omega) (by omega)]
   unfold zM
   simp only [dF,fq]
   omega
  refine cr (beq_iff_eq.2 er) (bw ⟨_,(x.m.cl 1).trans rfl,bw ⟨D.W.vs,(x.m.wm.cl 1).trans rfl,(by omega),cW ha ⟨_,by rw [bu];exact c2,?_⟩⟩⟩)
  rw [beq_self_eq_true]
  exact hR h (bY.refl _ _)
theorem Qf {a:Sl}(hn:a.a=none→a.n=0)(ra:dZ h a.a (key.map bv)) (na:a.n=key.length) (hl:key.length<140737488355328) (hR:∀(c:Sl) (g:Hp),c.n=key.length→dZ g c.a (key.map bv)→(∀p:Addr,c.a=some p→h.size≤p.block∧p.block<g.size)→bY N h g→R (.slice c.a c.n c.c) g):bq PG 59 #[.slice a.a a.n a.c] h R:=by
 refine ab4 ?_
 unfold an9
 cases e:a.a with
 |none =>
  have h0:=hn e
  refine cr rfl (hR ⟨none,0,0⟩ h (by show 0=key.length;omega) (by have:key=[]:=dA.1 (by omega);rw [this];rfl) nofun (bY.refl _ _))
 |some p =>
  rw [e]at ra
  refine cj rfl ?_
  refine AQ (a:=⟨some p,a.n,a.c⟩) ra na hl fun c g rc hc k=>⟨⟨some (ad c),key.length,key.length⟩,rfl,hR ⟨some (ad c),key.length,key.length⟩ g rfl (lq rc) (fun q hq=>?_) k⟩
  obtain rfl:=bt hq
  exact⟨hc,eE rc⟩
theorem lZ.Bz(r:lZ nd vo t T)(tv:TV t):(iB t.es (fU t.df key,key)=false→T.Bz key=none)∧(∀e,t.es[j0 t.es (fU t.df key,key)]?=some e→e.key=key→∃y,T.Bz key=some y∧e.q vo=y.q):=by
 constructor
 ·intro hf
  refine mu.2 fun y hy=>?_
  have:y.q∈t.es.map (DE.q vo):=r.es.mem_iff.2 (cy.2 ⟨y,hy,rfl⟩)
  obtain⟨e,he,eq⟩:=cy.1 this
  have ek:e.key=y.key:=congrArg (fun z:Sb=>z.2.1) eq
  intro hk
  have hk:y.key=key:=by simpa using hk
  have:iB t.es (fU t.df key,key)=true:=(Eb tv.pw fun e he ek=>by rw [(tv.hs e he).1,ek]).2 ⟨e,he,ek.trans hk⟩
  rw [this]at hf;cases hf
 ·intro e he ek
  have:e.q vo∈T.dc.map iM.q:=r.es.mem_iff.1 (cy.2 ⟨e,bx he,rfl⟩)
  obtain⟨y,hy,eq⟩:=cy.1 this
  have ek2:y.key=e.key:=congrArg (fun z:Sb=>z.2.1) eq
  exact⟨y,PU r.k hy (ek2.trans ek),eq.symm⟩
structure rx (h:Hp) (D:PL) (a:Sl) (key:LN):Prop where
 rd:dZ h a.a (key.map bv)
 n:a.n=key.length
 b8:fK key
 nil:a.a=none→a.n=0
 len:key.length≤140737488351232
 src:∀p,a.a=some p→key≠[]→p.block<h.size∧D.q.bR p.block=.out∧¬D.Y.own p.block∧∀v∈D.vw,v.tb≠p.block
theorem rx.cI {a:Sl}(x:rx h D a key)(k:bY N h h'):rx h' D a key :=
 ⟨fC k x.rd,x.n,x.b8,x.nil,x.len,fun p hp hk=>⟨bZ (x.src p hp hk).1 k.1,(x.src p hp hk).2⟩⟩
theorem abw(x:Pl h pb D k)(hv:v∈D.vw)(kk:rx h D o.key key)(hR:∀h',bY N h h'→R (vb true) h'):bq PG 102 #[vp (sa pb),.agg (mB v).toArray,.agg o.cells.toArray] h R:=by
 refine YL (mq:=some (ad v.tb)) (mn:=(v.id:Int)) (nF:=v.jp) (AF:=o.uE) (AE:=o.t) (AD:=o.u) (AC:=o.key) (AB:=o.mN) (AA:=o.n) (Az:=o.w) (Ay:=(o.c:Int)) (Ax:=(o.a:Int)) (Aw:=(o.b:Int)) ?_
 unfold afA
 refine dh fun h1 e1=>dh fun h2 e2=>?_
 have k1:bY N h h1:=e1▸cF _ _ _
 have k2:bY N h1 h2:=e2▸cF _ _ _
 have r4:eM h1 h.size (mB v):=e1▸du h #[vp (sa v.tb),wv v.id,vb v.jp] 172
 have r5:eM h2 h1.size o.cells:=by
  rw [e2]
  exact du h1 #[vi o.uE,vi o.t,vi o.u,.slice o.key.a o.key.n o.key.c,.slice o.mN.a o.mN.n o.mN.c,vi o.n,vi o.w,uv o.c,uv o.a,uv o.b] 89
 clear e1 e2
 have ZH:=k1.trans k2
 have r4:=bF k2 r4 _root_.id
 have x2:=x.cI ZH
 have Kk:=kk.cI ZH
 rw [show nb h=ad h.size from rfl,show nb h1=ad h1.size from rfl]
 refine⟨_,(bS r4 0).trans rfl,o.key,ia r5 rfl,?_⟩
 refine Qf Kk.nil Kk.rd Kk.n (by have:=kk.len;omega) fun c g Q9 hcr GZ k3=>⟨c,rfl,⟨_,(bS (bF k3 r4 _root_.id) 0).trans rfl,rfl⟩,?_⟩
 have x3:=x2.cI k3
 have kk3:=Kk.cI k3
 cases ho:v.jp with
 |false =>
  refine Sk (x3.Em hv ho) ⟨_,_,_,_,rfl,_,ia (bF k3 r4 _root_.id) rfl,?_⟩
  rw [ho]
  exact cr rfl (cr rfl (cr rfl (cr rfl (hR g (ZH.trans k3)))))
 |true =>
  obtain⟨t,T,ht,hT,hl,r,d,op⟩:=x3.jp hv ho
  obtain⟨tv,_⟩:=x3.w.wv.es t (bx ht)
  obtain⟨a1,a2⟩:=r.Bz tv (key:=key)
  have nA:∀(g':Hp) (w0 w1 w2:Nat) (e3:Int),bY N g g'→(iB t.es (fU t.df key,key)=false→w0=0∧w1=0∧w2=0∧e3=63)→(∀e,iB t.es (fU t.df key,key)=true→t.es[j0 t.es (fU t.df key,key)]?=some e→∃id,D.vo[e.val]?=some id∧(id=0∨D.s.da id)∧w0=D.s.fk id∧w1=e.a∧w2=e.b∧e3=0) →
    ∃t26:Bool,cell g' ((ad h.size).add 2)=some (vb t26)∧bX (!t26) (bX ((w0:Int)==(0:Int)) (bX ((w1:Int)==(0:Int)) (bX ((w2:Int)==(0:Int)) (R ((vb (e3==(61:Int)):Value)) g') (R (vb false:Value) g')) (R (vb false:Value) g')) (R (vb false:Value) g')) (bE (sa pb) fun p43=>∃t45:OA,cell g' (p43.add 1)=some (vp t45)∧bE t45 fun p46=>∃t48:Sl,cell g' (p46.add 2)=some (.slice t48.a t48.n t48.c)∧∃t50:Int,cell g' ((ad h.size).add 1)=some (vi t50)∧(0≤t50∧t50<(t48.n:Int))∧bE t48.a fun p51=>∃t52:OA,cell g' (p51.add (t50.toNat*1))=some (vp t52)∧∃t56:Sl,cell g' ((ad h1.size).add 3)=some (.slice t56.a t56.n t56.c)∧bq PG 150 #[vp t52,.slice t56.a t56.n t56.c] g' fun r h5=>∃zk:Int,∃adh:Bool,r=vt #[vi zk,vb adh]∧bX (!adh) (bX ((w0:Int)==(0:Int)) (bX ((w1:Int)==(0:Int)) (bX ((w2:Int)==(0:Int)) (R ((vb (e3==(63:Int)):Value)) h5) (R (vb false:Value) h5)) (R (vb false:Value) h5)) (R (vb false:Value) h5)) (bX (e3==(0:Int)) (bE t52 fun p81=>∃t83:Sl,cell h5 (p81.add 1)=some (.slice t83.a t83.n t83.c)∧(0≤zk∧zk<(t83.n:Int))∧bE t83.a fun p85=>∃t87:Int,cell h5 ((p85.add (zk.toNat*5)).add 3)=some (vu t87)∧bX ((w1:Int)==t87) (bE t52 fun p93=>∃t95:Sl,cell h5 (p93.add 1)=some (.slice t95.a t95.n t95.c)∧(0≤zk∧zk<(t95.n:Int))∧bE t95.a fun p97=>∃t99:Int,cell h5 ((p97.add (zk.toNat*5)).add 4)=some (vu t99)∧bX ((w2:Int)==t99) (bE t52 fun agX=>∃Ei:Sl,cell h5 (agX.add 1)=some (.slice Ei.a Ei.n Ei.c)∧(0≤zk∧zk<(Ei.n:Int))∧bE Ei.a fun agW=>∃NG:Int,cell h5 ((agW.add (zk.toNat*5)).add 2)=some (vi NG)∧bq PG 151 #[vp (sa pb),vu (w0:Int),vi NG] h5 fun r h6=>∃akR:Bool,r=vb akR∧R (vb akR:Value) h6) (R (vb false:Value) h5)) (R (vb false:Value) h5)) (R (vb false:Value) h5))):=fun g' w0 w1 w2 e3 k4 wX xK=>by
   have x4:=x3.cI k4
   have kk4:=kk3.cI k4
   have kt:=ZH.trans (k3.trans k4)
   obtain⟨b,ha,hc⟩:=x4.m.wm.tat ht
   have tn:=x4.m.wm.tn
   have tl:=(bp.1 ht).1
   have r4':=bF (k3.trans k4) r4 _root_.id
   have r5':=bF (k3.trans k4) r5 _root_.id
   have xt:=x4.m.wm.tm v.id t ht
   refine⟨v.jp,ia r4' rfl,?_⟩
   rw [ho]
   refine cj rfl (bw ⟨_,(x4.m.cl 1).trans rfl,bw ⟨D.W.ts,(x4.m.wm.cl 2).trans rfl,_,ia r4' rfl,(by omega),cW ha ⟨_,by rw [bu,cQ];exact hc,o.key,ia r5' rfl,?_⟩⟩⟩)
   refine RO xt tv x4.m.wm.sp kk4.rd kk4.n kk.b8 kk.len fun g5 k5=>⟨_,_,rfl,?_⟩
   have x5:=x4.cI k5
   have ZX:=x5.m.wm.tm v.id t ht
   have xn:=ZX.n
   cases rA:iB t.es (fU t.df key,key)with
   |false =>
    obtain⟨rfl,rfl,rfl,rfl⟩:=wX rA
    exact cr rfl (cr rfl (cr rfl (cr rfl (hR g5 (kt.trans k5)))))
   |true =>
    obtain⟨e,he,ek⟩:=lj rA
    obtain⟨id,AI,hh,rfl,rfl,rfl,rfl⟩:=xK e rA he
    have za:=(bp.1 he).1
    obtain⟨b',_,AK,tG⟩:=ZX.at x5.m.wm.sp he
    have tln:=tv.ln
    refine cj rfl (cr rfl (bw ⟨t.sl,(ZX.cl x5.m.wm.sp 1).trans rfl,(by omega),cW AK ⟨_,by rw [bu];exact(tG 3 (by omega)).trans rfl,cr (beq_self_eq_true _) (bw ⟨t.sl,(ZX.cl x5.m.wm.sp 1).trans rfl,(by omega),cW AK ⟨_,by rw [bu];exact(tG 4 (by omega)).trans rfl,cr (beq_self_eq_true _) (bw ⟨t.sl,(ZX.cl x5.m.wm.sp 1).trans rfl,(by omega),cW AK ⟨_,by rw [bu];exact(tG 2 (by omega)).trans rfl,?_⟩⟩)⟩⟩)⟩⟩))
    exact amf x5 AI hh fun g6 k6=>⟨true,rfl,hR g6 (kt.trans (k5.trans k6))⟩
  refine ac7 op r.k hcr Q9 kk.b8 kk.len (fun hf g' k4=>⟨_,_,_,_,rfl,nA g' 0 0 0 63 k4 (fun _=>⟨rfl,rfl,rfl,rfl⟩) fun e rA he=>?_⟩) fun y g' hy k4=>⟨_,_,_,_,rfl,nA g' (D.s.fk y.r) y.a y.b 0 k4 (fun rA=>?_) fun e rA he=>?_⟩
  ·obtain⟨e',OB,ek⟩:=lj rA
   rw [he]at OB
   obtain rfl:=bt OB
   obtain⟨y,hy,_⟩:=a2 e he ek
   rw [hf]at hy;cases hy
  ·rw [a1 rA]at hy;cases hy
  ·obtain⟨e',OB,ek⟩:=lj rA
   rw [he]at OB
   obtain rfl:=bt OB
   obtain⟨y',DF,eq⟩:=a2 e he ek
   rw [hy]at DF
   obtain rfl:=bt DF
   have BG:=r.mA e (bx he)
   have er:D.vo.getD e.val 0=y.r:=congrArg (fun z:Sb=>z.2.2.1) eq
   have ea:e.a=y.a:=congrArg (fun z:Sb=>z.2.2.2.1) eq
   have eb:e.b=y.b:=congrArg (fun z:Sb=>z.2.2.2.2) eq
   have hg:D.vo[e.val]?=some (D.vo[e.val]'BG):=br BG
   rw [jq hg]at er
   exact⟨y.r,by rw [hg,er],op.Kw (pz hy).1,rfl,ea.symm,eb.symm,rfl⟩
end
section
variable {h h1 h' h2 g:Hp} {pb k i:Nat} {D:PL} {q1:HQ} {s1:RS} {nd gm kq:List di} {R:RP} {v:VD} {x:zg} {T T':TD} {t t':DT} {vo:LN} {o:Kd} {es:List DE} {key:LN} {Y2:Mem}
def PL.fN(D:PL)(i:Nat)(q:HQ)(s:RS)(nd:List di)(Y:Mem)(t:DT)(T:TD):PL:={D with W:=D.W.gJ i t,q:=q,s:=s,nd:=nd,to:=D.to.set i T,Y:=Y}
theorem Pl.Hm(x:Pl h pb D k)(ht:D.W.de[i]?=some t)(hT:D.to[i]?=some T)(hl:t.ib=true)(a:uB h D.q D.s D.nd T h1 q1 s1 kq T')(u:wY h1 D.Y i h2 Y2 t')(Kj:lZ kq D.vo t' T')(e1:t'.vw=t.vw∧t'.hd=t.hd∧t'.jY=t.jY)(Du:WV (D.W.gJ i t'))
  (hk:∀e∈t'.es,(∃e0∈t.es,e.c=e0.c)∨h1.size≤e.c) (hes:∀w∈lY D.W.gy D.lv,∀e∈t'.es,e.val≠w):Pl h2 pb (D.fN i q1 s1 kq Y2 t' T') (k+1):=by
 have m1:PM h1 pb {D with q:=q1,s:=s1,nd:=kq}:=x.m.ex a.ex
 have r1:PR h1 {D with q:=q1,s:=s1,nd:=kq}:=x.r.ex a.g a.ex
 have r2:=r1.own m1 u.rB
 have ok:=ui.VC m1 r1 u.rB
 have iZ:=(bp.1 ht).1
 have hTl:=(bp.1 hT).1
 have Ff:t'.ib=true:=by unfold DT.ib at hl ⊢;rw [e1.1,e1.2.1];exact hl
 refine⟨⟨(u.off 0 (by omega) (by omega)).1.trans m1.l0,(u.off 0 (by omega) (by omega)).2.trans m1.c0,m1.wm.up ht u e1.2.2,m1.F5.iy (u.off 5 (by omega) (by omega)),m1.hi.iy (u.off 6 (by omega) (by omega)),m1.li.iy (u.off 7 (by omega) (by omega)),ok,fun t0 ht0 e he=>?_,m1.Hj,⟨(m1.bs.own u.rB).1,m1.bs.r,(m1.bs.own u.rB).2,m1.bs.v⟩⟩,⟨r2.g,r2.tz,r2.mA⟩,?_⟩
 ·rcases dB ht0 with h|h
  ·exact m1.su t0 h e he
  ·subst h
   rcases hk e he with⟨e0,Oz,ec⟩|hc
   ·rw [ec]
    exact m1.su t (bx ht) e0 Oz
   ·refine⟨r1.g.st.fr hc,fun w hw e2=>?_⟩
    have:=eE (r1.mA w hw).1.row
    omega
 ·have hr:∀r,r≠0→(some r∈s1.bC↔some r∈D.s.bC):=fun r _=>a.T5.mem r
  refine⟨x.w.pg.IK ht hT hl a.n Kj Ff hes hr,?_,Du,a.iN.trans x.w.iN,bP x.w.n1 a.n.len,?_,?_⟩
  ·refine x.w.hc.AZ a.T5 (fun j hj=>?_) (by show (D.W.de.set i t').length=_;rw [cd]) rfl (fun _ _=>rfl) fun j t0 hj=>?_
   ·unfold Eh
    show ((D.to.set i T')[j]?.map (·.t)).getD 0=_
    rw [eW]
    by_cases e:i=j
    ·subst e
     rw [if_pos rfl,if_pos hTl,hT]
     exact a.n.t
    ·rw [if_neg e]
   ·rcases kQ hj with⟨rfl,rfl,_⟩|⟨_,h⟩
    ·exact⟨t,ht,e1.1,e1.2.1⟩
    ·exact⟨t0,h,rfl,rfl⟩
  ·have h1:=a.agC
   have h2:=JW D.s.bC
   have h3:=x.w.rl
   show s1.bC.length≤4*(k+1)+4
   omega
  ·have:=x.w.bd
   show D.W.eX.length≤k+1+1∧(D.W.de.set i t').length≤k+1∧_∧_∧_
   rw [cd]
   exact⟨by omega,by omega,by show D.W.gy.length≤_;omega,by show D.vw.length≤_;omega,by show D.ho.length≤_;omega⟩
theorem lZ.step(r:lZ nd vo t T)(a:qB nd T gm T')(st:Stepped T T')(hs:rv t t'):lZ gm vo t' T':=by
 obtain⟨o,m,rfl,e⟩:=hs
 have p:T'.dc.Perm T.dc:=st.lS
 refine⟨a.c,r.k.lS a.df p,a.df.trans r.df,?_,r.es.trans (p.symm.map _),r.mA⟩
 have e2:=st.sn
 rw [←r.sh]at e2
 exact e.trans e2.symm
theorem rv.AZ(s:rv t t'):t'.es=t.es∧t'.df=t.df∧t'.bk=t.bk∧t'.vw=t.vw∧t'.hd=t.hd∧t'.jY=t.jY∧t'.sl=t.sl:=by
 obtain⟨o,m,rfl,_⟩:=s
 exact⟨rfl,rfl,rfl,rfl,rfl,rfl,rfl⟩
theorem WV.step {W:DW}(w:WV W)(ht:W.de[i]?=some t)(s:rv t t'):WV (W.gJ i t'):=by
 obtain⟨tv,Fi,b1,b2,b3,b4,b5⟩:=w.es t (bx ht)
 obtain⟨e1,e2,e3,e4,e5,e6,e7⟩:=s.AZ
 have uc:=s.le ⟨b2,b3⟩
 exact w.gJ ⟨by rw [e1];exact tv.pw,by rw [e1,e2];exact tv.hs,by rw [e2];exact tv.sd,by rw [e1];exact tv.ln⟩ (by rw [e1];exact Fi) ⟨by omega,uc.1,uc.2,by omega,by omega⟩
theorem ad2(n m:Nat):((n:Int)==(m:Int))=decide (n=m):=by
 by_cases h:n=m
 ·subst h;rw [beq_self_eq_true,decide_eq_true rfl]
 ·rw [decide_eq_false h,beq_eq_false_iff_ne];omega
theorem UX {x4 x5 jY tb i4:Nat}{b4:Bool}{n b ol m:Nat}(r4:eM h x4 [vp (sa tb),wv i4,vb b4]) (iS:o.uE≠13) (r5:eM h x5 o.cells)
  (S7:∀R:RP,(∀h',bY N h h'→R (.agg #[wv n,wv b,wv ol,wv m]) h')→bq PG 44 #[vp (sa tb)] h R)
  (hln:∀(g:Hp) (R:RP),bY N h g→R (wv n) g→bq PG 24 #[vp (sa tb)] g R)
  (hd:∀g,bY N h g→(∃sl:Sl,cell g ((ad jY).add 1)=some (.slice sl.a sl.n sl.c)∧sl.n=n)∧cell g ((ad jY).add 2)=some (wv b)∧cell g ((ad jY).add 3)=some (wv ol)∧cell g ((ad jY).add 4)=some (wv m))
  (hR:∀h',bY N h h'→R (vb true) h'):Cm (ad x4) (ad x5) (sa jY) h R:=by
 unfold Cm
 refine⟨_,(bS r5 0).trans rfl,cj (beq_eq_false_iff_ne.2 iS) ⟨_,(bS r4 0).trans rfl,S7 _ fun h6 k6=>⟨_,_,_,_,rfl,dh fun h7 e7=>?_⟩⟩⟩
 have w7:eM h7 h6.size [vi 0,vi 0,vi 0,vi 0]:=e7▸du h6 #[vi 0,vi 0,vi 0,vi 0] 70
 have k7:bY N h6 h7:=e7▸cF _ _ _
 clear e7
 rw [show nb h6=ad h6.size from rfl]
 refine eu w7 (i:=0) rfl (by simp) fun h8 w8 k8=>eu w8 (i:=1) (cm _ _) (by simp) fun h9 w9 k9=>eu w9 (i:=2) (cm _ _) (by simp) fun Dq w10 k10=>eu w10 (i:=3) (cm _ _) (by simp) fun Aj w11 k11=>?_
 have kk:bY N h6 Aj:=cL (cL (cL (cL k7 k8 fun b hb=>by omega) k9 fun b hb=>by omega) k10 fun b hb=>by omega) k11 fun b hb=>by omega
 have w11:eM Aj h6.size [wv n,wv b,wv ol,wv m]:=w11
 have kt:=k6.trans kk
 obtain⟨⟨sl,c1,c1n⟩,c2,c3,c4⟩:=hd Aj kt
 refine⟨_,(bS (bF kt r4 _root_.id) 0).trans rfl,hln Aj _ kt ⟨_,rfl,bw ⟨sl,c1,?_⟩⟩⟩
 rw [c1n]
 have cw:∀j,cell Aj ((ad h6.size).add j)=([wv n,wv b,wv ol,wv m]:LV)[j]?:=fun j=>by rw [cm];exact bS w11 j
 refine cr (beq_self_eq_true _) ⟨_,(bS w11 0).trans rfl,cr (beq_self_eq_true _) ⟨_,(cw 1).trans rfl,bw ⟨_,c2,cr (beq_self_eq_true _) ⟨_,(cw 2).trans rfl,bw ⟨_,c3,cr (beq_self_eq_true _) ⟨_,(cw 3).trans rfl,bw ⟨_,c4,?_⟩⟩⟩⟩⟩⟩⟩
 rw [beq_self_eq_true]
 exact hR Aj kt
theorem Sr(x:Pl h pb D k)(hv:v∈D.vw)(hR:∀h' D',Pl h' pb D' (k+1)→D'.hB=D.hB→R (vb true) h'):bq PG 104 #[vp (sa pb),.agg (mB v).toArray,.agg o.cells.toArray] h R:=by
 refine YJ (mq:=some (ad v.tb)) (mn:=(v.id:Int)) (nF:=v.jp) (AF:=o.uE) (AE:=o.t) (AD:=o.u) (AC:=o.key) (AB:=o.mN) (AA:=o.n) (Az:=o.w) (Ay:=(o.c:Int)) (Ax:=(o.a:Int)) (Aw:=(o.b:Int)) ?_
 unfold afy
 refine dh fun h1 e1=>dh fun h2 e2=>dh fun h3 e3=>?_
 have k1:bY N h h1:=e1▸cF _ _ _
 have k2:bY N h1 h2:=e2▸cF _ _ _
 have k3:bY N h2 h3:=e3▸cF _ _ _
 have r4:eM h1 h.size (mB v):=e1▸du h #[vp (sa v.tb),wv v.id,vb v.jp] 172
 have r5:eM h2 h1.size o.cells:=by
  rw [e2]
  exact du h1 #[vi o.uE,vi o.t,vi o.u,.slice o.key.a o.key.n o.key.c,.slice o.mN.a o.mN.n o.mN.c,vi o.n,vi o.w,uv o.c,uv o.a,uv o.b] 89
 have r6:eM h3 h2.size [vu 0,.slice none 0 0,vi 0,vi 0,vi 0,vi 0,vi 0]:=e3▸du h2 #[vu 0,.slice none 0 0,vi 0,vi 0,vi 0,vi 0,vi 0] 221
 clear e1 e2 e3
 have kk:=k1.trans (k2.trans k3)
 have r4:=bF (k2.trans k3) r4 _root_.id
 have r5:=bF k3 r5 _root_.id
 have x3:=x.cI kk
 have up:∀ {g:Hp} {m:Nat},Pl g pb D m→Pl g pb D (m+1):=fun y=>⟨y.m,y.r,y.w.mono (gV _)⟩
 rw [show nb h=ad h.size from rfl,show nb h1=ad h1.size from rfl,show nb h2=ad h2.size from rfl]
 refine⟨v.jp,ia r4 rfl,?_⟩
 have r4:eM h3 h.size [vp (sa v.tb),wv v.id,vb v.jp]:=r4
 cases ho:v.jp with
 |false =>
  refine cj rfl ?_
  have l:=x3.Em hv ho
  by_cases zC:o.uE=13
  ·unfold Cm
   refine⟨_,(bS r5 0).trans rfl,cr (beq_iff_eq.2 zC) ⟨_,(bS r4 0).trans rfl,af4 x3.r.g l ⟨_,rfl,?_⟩⟩⟩
   refine Ms ?_
   unfold X4
   exact bw ⟨_,ia r6 rfl,cr rfl ⟨_,rfl,hR h3 D (up x3) rfl⟩⟩
  ·refine UX (n:=0) (b:=0) (ol:=0) (m:=0) r4 zC r5 (fun R hr=>Z1 x3.r.g l hr) (fun g R kg hr=>ac5 (x3.r.g.cI kg) (l.cI kg) hr) (fun g kg=>?_) fun h' k'=>hR h' D (up (x3.cI k')) rfl
   have r6':=bF kg r6 _root_.id
   exact⟨⟨⟨none,0,0⟩,ia r6' rfl,rfl⟩,ia r6' rfl,ia r6' rfl,ia r6' rfl⟩
 |true =>
  obtain⟨t,T,ht,hT,hl,r,d,op⟩:=x3.jp hv ho
  obtain⟨tv,Fi,b1,b2,b3,_⟩:=x3.w.wv.es t (bx ht)
  obtain⟨b,ha,hc⟩:=x3.m.wm.tat ht
  have tn:=x3.m.wm.tn
  have tl:=(bp.1 ht).1
  refine cr rfl (bw ⟨_,(x3.m.cl 1).trans rfl,bw ⟨D.W.ts,(x3.m.wm.cl 2).trans rfl,_,ia r4 rfl,(by omega),cW ha ⟨_,by rw [bu,cQ];exact hc,?_⟩⟩⟩)
  by_cases zC:o.uE=13
  ·unfold Cm
   refine⟨_,(bS r5 0).trans rfl,cr (beq_iff_eq.2 zC) ⟨_,(bS r4 0).trans rfl,NA op fun g q1 s1 kq T' bb a st eb _=>⟨bb,rfl,?_⟩⟩⟩
   have m1:PM g pb {D with q:=q1,s:=s1,nd:=kq}:=x3.m.ex a.ex
   refine YW (m1.wm.tm v.id t ht) m1.wm.sp (by omega) fun g2 Y2 o' m' u es1=>⟨_,rfl,?_⟩
   have hs:rv t {t with od:=o',mv:=m'}:=⟨o',m',rfl,es1⟩
   have e0:t.od=T.sE.2.1:=congrArg (fun z:Nat × Nat × Nat=>z.2.1) r.sh
   rw [eb,←e0,show ((!decide (t.od=0))==(!decide (t.od=0)))=true from beq_self_eq_true _]
   exact hR g2 _ (x3.Hm ht hT hl a u (r.step a.n st hs) ⟨rfl,rfl,rfl⟩ (x3.w.wv.step ht hs) (fun e he=>.inl ⟨e,he,rfl⟩) fun w hw e he=>x3.w.pg.bs w hw t (bx ht) hl e he) rfl
  ·have es:T.dc.length=t.es.length:=by have:=r.es.length_eq;rw [bA,bA]at this;exact this.symm
   have o0:=op.len
   have esh:T.sE=(t.bk,t.od,t.mv):=r.sh.symm
   refine UX (n:=t.es.length) (b:=t.bk) (ol:=t.od) (m:=t.mv) r4 zC r5 (fun R hr=>af7 op fun h' k'=>?_) (fun g R kg hr=>Z4 (op.cI kg).tr (by omega) (by rw [es];exact hr)) (fun g kg=>?_) fun h' k'=>hR h' D (up (x3.cI k')) rfl
   ·rw [es,esh]
    exact hr h' k'
   ·have x4:=x3.cI kg
    have xt:=x4.m.wm.tm v.id t ht
    exact⟨⟨t.sl,(xt.cl x4.m.wm.sp 1).trans rfl,xt.n⟩,(xt.cl x4.m.wm.sp 2).trans rfl,(xt.cl x4.m.wm.sp 3).trans rfl,(xt.cl x4.m.wm.sp 4).trans rfl⟩
end
section
variable {h h1 h' h2 g:Hp} {k i n:Nat} {q1:HQ} {s1:RS} {nd gm kq:List di} {v:VD} {x:zg} {T T' T1:TD} {t t' t1 t2:DT} {vo:LN} {o:Kd} {es:List DE} {key:LN} {bC:List (Option Nat)} {W:DW} {to:List TD} {lv:LN} {iN j:Nat}
theorem qK.aa3(p:qK nd bC W vo to lv)(hv:1≤W.eX.length):∃dN,Lv nd bC dN:=by
 refine⟨sq W vo to lv 0,?_⟩
 have l:=p.ib (v:=0) hv fun h=>by have:=(p.PX h).1;omega
 rw [jq p.v0]at l
 exact Lv.mem (fun y h0 h=>by
  rcases ck.1 h with e|h
  ·exact absurd (bt e) h0
  ·exact .root h h0) (fun y h0 h=>.root (bJ _ h) h0) l
theorem lZ.sz(r:lZ nd vo t T):t.bk≤1048576∧t.od≤1048576∧t.mv≤1048576∧t.es.length=T.dc.length:=by
 have h:=r.sh
 have h1:t.bk=2 ^ T.nw.j:=congrArg (fun z:Nat × Nat × Nat=>z.1) h
 have h2:t.es.length=T.dc.length:=by have:=r.es.length_eq;rw [bA,bA]at this;exact this
 have hj:=(o7 r.c.g.jn).1
 cases ho:T.od with
 |none =>
  rw [uM ho]at h
  have h3:t.od=0:=congrArg (fun z:Nat × Nat × Nat=>z.2.1) h
  have h4:t.mv=T.mv:=congrArg (fun z:Nat × Nat × Nat=>z.2.2) h
  have:=r.c.g.mz ho
  omega
 |some o =>
  rw [sL ho]at h
  have h3:t.od=2 ^ o.j:=congrArg (fun z:Nat × Nat × Nat=>z.2.1) h
  have h4:t.mv=T.mv:=congrArg (fun z:Nat × Nat × Nat=>z.2.2) h
  have h5:=(o7 (r.c.g.jo o ho)).1
  have h6:=r.c.mv o ho
  omega
theorem TI(p:qK nd bC W vo to lv)(hv:1≤W.eX.length)(r:lZ nd vo t T)(b:Iu iN nd bC T j gm T')(el:iN=W.iN)(en:n=2 ^ j):lZ gm vo (py W t n) T':=by
 subst el en
 have key:∀t0:DT,t0.es=t.es→t0.df=t.df→(t0.bk,t0.od,t0.mv)=T'.sE→lZ gm vo t0 T':=fun t0 e1 e2 e3 =>
  ⟨b.n.c,r.k.lS b.n.df b.lS,by rw [b.n.df,e2];exact r.df,e3,by rw [e1];exact r.es.trans (b.lS.symm.map _),by rw [e1];exact r.mA⟩
 have od0:t.od=0↔T.od=none:=by
  rw [←IJ,←r.sh]
 obtain⟨dN,ahg⟩:=p.aa3 hv
 obtain⟨w1,w2⟩:=p.Iw hv ahg
 unfold py
 by_cases ho:T.od=none
 ·by_cases hs:T'.sE=T.sE
  ·have hf:=b.L0 ho hs dN ahg
   rw [w1,w2]at hf
   rw [if_neg (fun h=>hf h.2)]
   exact key t rfl rfl (r.sh.trans hs.symm)
  ·obtain⟨q1,q2,_⟩:=b.room ho hs
   have hr:=q2 dN ahg
   rw [w1,w2]at hr
   rw [if_pos ⟨od0.2 ho,hr⟩]
   refine key _ rfl rfl ?_
   have e1:t.bk=2 ^ T.nw.j:=congrArg (fun z:Nat × Nat × Nat=>z.1) r.sh
   rw [q1,←e1]
 ·rw [if_neg (fun h=>ho (od0.1 h.1))]
  exact key t rfl rfl (r.sh.trans (b.was ho).symm)
theorem MT {c c':Prop}[Decidable c] [Decidable c'] (p:qK nd bC W vo to lv) (hv:1≤W.eX.length) (r:lZ nd vo t T) (b:Nk c iN nd bC T j gm T') (el:iN=W.iN) (hc:c↔c') (en:c→n=2 ^ j):lZ gm vo (if c' then py W t n else t) T':=by
 unfold Nk at b
 by_cases h:c
 ·rw [if_pos h]at b
  rw [if_pos (hc.1 h)]
  exact TI p hv r b el (en h)
 ·rw [if_neg h]at b
  rw [if_neg (fun h'=>h (hc.2 h'))]
  obtain⟨rfl,rfl⟩:=b
  exact r
theorem C8(W:DW)(t:DT)(n:Nat):(py W t n).es=t.es∧(py W t n).df=t.df∧(py W t n).vw=t.vw∧(py W t n).hd=t.hd∧(py W t n).jY=t.jY∧(py W t n).sl=t.sl:=by
 unfold py
 split<;>exact⟨rfl,rfl,rfl,rfl,rfl,rfl⟩
theorem WV.Kj(w:WV W)(r:lZ nd vo t' T')(tv:TV t')(he:∀e∈t'.es,e.val<W.eX.length)(hv:t'.vw<100000000∧t'.hd<100000000):WV (W.gJ i t'):=by
 have:=r.sz
 exact w.gJ tv he ⟨by omega,by omega,by omega,hv.1,hv.2⟩
theorem lZ.del(r:lZ nd vo t T)(tv:TV t){e0:DE}{e:iM}{rest:List iM}(he:t.es[j0 t.es (fU t.df key,key)]?=some e0) (eq:e0.q vo=e.q) (p1:T.dc.Perm (e::rest)) (a:qB nd T kq T1) (p2:T1.dc.Perm rest) (sn:T1.sE=tM T.sE) (st:rv t t1) {a':Sl} (e2:t2={t1 with es:=oF t1.es (j0 t.es (fU t.df key,key)),sl:=a'}):lZ kq vo t2 T1:=by
 obtain⟨s1,s2,s3,_⟩:=st.AZ
 have hd:t2.es=oF t.es (j0 t.es (fU t.df key,key)):=by rw [e2,←s1]
 have hpe:(e0::oF t.es (j0 t.es (fU t.df key,key))).Perm t.es:=FH he
 obtain⟨o,m,e1,es⟩:=st
 refine⟨a.c,?_,?_,?_,?_,fun x hx=>?_⟩
 ·refine⟨a.df▸r.k.sd,fun y hy=>?_,?_⟩
  ·rw [a.df]
   exact r.k.hk y (p1.mem_iff.2 (bJ _ (p2.mem_iff.1 hy)))
  ·have h1:=(p1.map (·.key)).nodup_iff.1 r.k.ku
   rw [cU,cV]at h1
   exact(p2.map (·.key)).nodup_iff.2 h1.2
 ·rw [a.df,r.df,e2,e1]
 ·rw [sn,←r.sh,←es,e2,e1]
 ·rw [hd]
  have h1:=(hpe.map (DE.q vo)).trans (r.es.trans (p1.map iM.q))
  rw [cU,cU,eq]at h1
  exact(tB h1).trans (p2.symm.map _)
 ·rw [hd]at hx
  exact r.mA x (hpe.mem_iff.1 (bJ _ hx))
end
section
variable {h g:Hp} {pb k n:Nat} {D:PL} {q1:HQ} {s1:RS} {nd kq:List di} {R:RP} {v:VD} {x:zg} {T T1:TD} {t t' t1 t2:DT} {vo:LN} {es:List DE} {key:LN}
theorem rx.rB {a:Sl}(kk:rx h D a key):∀p,a.a=some p→key.map bv≠[]→¬D.Y.own p.block:=fun p hp hk=>(kk.src p hp fun e=>hk (by rw [e];rfl)).2.2.1
theorem arO(x:Pl h pb D k)(hv:v∈D.vw)(ho:v.jp=true)(ht:D.W.de[v.id]?=some t){c:Sl}(rc:dZ h c.a (key.map bv)) (nc:c.n=key.length) (b8:fK key) (hl:key.length≤140737488351232) (sc:∀pp,c.a=some pp→key≠[]→D.q.bR pp.block=.out∧pp.block<h.size)
  (hK:∀h4 q1 s1 kq (e:Int),Ex h D.q h4 q1→PM h4 pb {D with q:=q1,s:=s1,nd:=kq} →
   (∀(a:Sl) (R2:RP),rx h4 {D with q:=q1,s:=s1,nd:=kq} a key→(∀h5 D5,Pl h5 pb D5 (k+1)→D5.hB=D.hB→R2 (vi e) h5)→bq PG 147 #[vp (sa D.wb),vp (sa t.jY),.slice a.a a.n a.c] h4 R2)→R (vi e) h4) :
  bq PG 49 #[vp (sa v.tb),.slice c.a c.n c.c] h R:=by
 obtain⟨t',T,LB,hT,yK,r,d,op⟩:=x.jp hv ho
 rw [ht]at LB
 obtain rfl:=bt LB
 obtain⟨tv,Fi,b1,b2,b3,b4,b5⟩:=x.w.wv.es t (bx ht)
 obtain⟨a1,a2⟩:=r.Bz tv (key:=key)
 have Ug:=fun w hw e he=>x.w.pg.bs w hw t (bx ht) yK e he
 have Ub:=x.w.wv.v1
 refine Z7 op r.k rc nc b8 hl sc (fun h4 q1 s1 kq T1 hf a st=>hK h4 q1 s1 kq 63 a.ex (x.m.ex a.ex) fun ak R2 kk hR2=>?_) fun e rest h4 q1 s1 kq T1 lT T2 hf an p1 p2 sn eb a=>hK h4 q1 s1 lT 0 a.ex (x.m.ex a.ex) fun ak R2 kk hR2=>?_
 ·have m1:PM h4 pb {D with q:=q1,s:=s1,nd:=kq}:=x.m.ex a.ex
  have rA:iB t.es (fU t.df key,key)=false:=by
   rw [←qF]
   intro rA
   obtain⟨e,he,ek⟩:=lj rA
   obtain⟨y,hy,_⟩:=a2 e he ek
   rw [hf]at hy;cases hy
  refine RR m1.wm x.w.wv ht kk.rd kk.n kk.b8 kk.len kk.rB (fun g Y' t1 hs _ u=>?_) fun g Y' t1 a' t2 t3 hs Wn=>by rw [rA]at Wn;cases Wn
  obtain⟨QI,q2,q3,q4,q5,q6,q7⟩:=hs.AZ
  exact hR2 g _ (x.Hm ht hT yK a u (r.step a.n st hs) ⟨q4,q5,q6⟩ (x.w.wv.step ht hs) (fun e he=>.inl ⟨e,QI▸he,rfl⟩) fun w hw e he=>Ug w hw e (QI▸he)) rfl
 ·have m1:PM h4 pb {D with q:=q1,s:=s1,nd:=lT}:=x.m.ex a.ex
  have rA:iB t.es (fU t.df key,key)=true:=by
   cases rA:iB t.es (fU t.df key,key)with
   |true=>rfl
   |false=>rw [a1 rA]at hf;cases hf
  obtain⟨e0,Oz,ek0⟩:=lj rA
  obtain⟨y,hy,eq⟩:=a2 e0 Oz ek0
  rw [hf]at hy
  obtain rfl:=bt hy
  refine RR m1.wm x.w.wv ht kk.rd kk.n kk.b8 kk.len kk.rB (fun g Y' t1 hs Wn=>by rw [rA]at Wn;cases Wn) fun g Y' t1 a' t2 t3 hs _ e2 Kz e3 u=>?_
  have Dj:lZ kq D.vo t2 T1:=r.del tv Oz eq p1 an p2 sn hs e2
  obtain⟨w1,w2,w3,w4,w5,w6,w7⟩:=hs.AZ
  have Ag:t2.vw=t.vw∧t2.hd=t.hd∧t2.jY=t.jY:=by rw [e2];exact⟨w4,w5,w6⟩
  have ur:∀e∈t2.es,e∈t.es:=fun e he=>by
   rw [e2]at he
   have he:e∈oF t1.es (j0 t.es (fU t.df key,key)):=he
   rw [w1]at he
   rcases bI.1 he with h|h
   ·exact dK h
   ·exact lE h
  have ahN:t2.ib=true:=by unfold DT.ib at yK ⊢;rw [Ag.1,Ag.2.1];exact yK
  have pg2:qK kq D.s.bC (D.W.gJ v.id t2) D.vo (D.to.set v.id T1) D.lv:=x.w.pg.IK ht hT yK an Dj ahN (fun w hw e he=>Ug w hw e (ur e he)) fun _ _=>oy
  have z:=Dj.sz
  have ebk:t2.bk=2 ^ T1.nw.j:=congrArg (fun z:Nat × Nat × Nat=>z.1) Dj.sh
  have Vk:lZ lT D.vo t3 T2:=by
   rw [e3]
   refine MT (n:=t2.bk / 2) pg2 Ub Dj eb x.w.iN (by rw [←ebk,z.2.2.2]) fun hc=>?_
   rw [ebk]
   obtain⟨jj,hj⟩:∃jj,T1.nw.j=jj+1:=⟨T1.nw.j-1,by
    have:T1.nw.j≠0:=fun e=>by rw [e]at hc;have:=hc.1;simp at this
    omega⟩
   rw [hj,mr,Nat.mul_div_cancel _ (by omega),jC]
  have h3:t3.es=t2.es∧t3.vw=t2.vw∧t3.hd=t2.hd∧t3.jY=t2.jY∧t3.df=t2.df:=by
   rw [e3]
   split
   ·obtain⟨z1,z2,z3,z4,z5,_⟩:=C8 (D.W.gJ v.id t2) t2 (t2.bk / 2)
    exact⟨z1,z3,z4,z5,z2⟩
   ·exact⟨rfl,rfl,rfl,rfl,rfl⟩
  have tv3:TV t3:=⟨by rw [h3.1];exact Kz.pw,by rw [h3.1,h3.2.2.2.2];exact Kz.hs,by rw [h3.2.2.2.2];exact Kz.sd,by rw [h3.1];exact Kz.ln⟩
  refine hR2 g _ (x.Hm ht hT yK a u Vk ⟨by rw [h3.2.1];exact Ag.1,by rw [h3.2.2.1];exact Ag.2.1,by rw [h3.2.2.2.1];exact Ag.2.2⟩ (x.w.wv.Kj Vk tv3 (fun e he=>Fi e (ur e (h3.1▸he))) ⟨by rw [h3.2.1,Ag.1];exact b4,by rw [h3.2.2.1,Ag.2.1];exact b5⟩) (fun e he=>.inl ⟨e,ur e (h3.1▸he),rfl⟩) fun w hw e he=>Ug w hw e (ur e (h3.1▸he))) rfl
end
section
variable {h h1 h2:Hp} {k:Nat} {s1:RS} {nd kq:List di} {x:zg} {T T1:TD} {t t1 t2:DT} {vo:LN} {o:Kd} {es:List DE} {key:LN} {val w1 w2:Nat}
theorem lZ.GB(r:lZ nd vo t T){e0:DE}{e:iM}{rest:List iM}{pos id:Nat}(he:t.es[pos]?=some e0)(eq:e0.q vo=e.q)(p1:T.dc.Perm (e::rest)) (a:qB nd T kq T1) (p2:T1.dc.Perm (({e with r:=id,a:=w1,b:=w2}:iM)::rest)) (sn:T1.sE=tM T.sE) (st:rv t t1) (AI:vo[val]?=some id) (e2:t2={t1 with es:=t1.es.set pos {e0 with val:=val,a:=w1,b:=w2}}):lZ kq vo t2 T1:=by
 obtain⟨s1,s2,s3,_⟩:=st.AZ
 have hd:t2.es=t.es.set pos {e0 with val:=val,a:=w1,b:=w2}:=by rw [e2,←s1]
 have za:=(bp.1 he).1
 have hpe:(e0::oF t.es pos).Perm t.es:=FH he
 have ZL:(({e0 with val:=val,a:=w1,b:=w2}:DE)::oF t.es pos).Perm (t.es.set pos {e0 with val:=val,a:=w1,b:=w2}):=by
  have h1:=FH (l:=t.es.set pos {e0 with val:=val,a:=w1,b:=w2}) (cE za)
  have e3:Go.Ev.del (t.es.set pos {e0 with val:=val,a:=w1,b:=w2}) pos=oF t.es pos:=by
   unfold Go.Ev.del oF
   rw [List.take_set_of_le (bH _),List.drop_set_of_lt (Nat.lt_succ_self _)]
  rw [e3]at h1
  exact h1
 have eqk:e0.hs=e.hs∧e0.key=e.key:=⟨congrArg (fun z:Sb=>z.1) eq,congrArg (fun z:Sb=>z.2.1) eq⟩
 obtain⟨o,m,e1,es⟩:=st
 refine⟨a.c,?_,?_,?_,?_,fun x hx=>?_⟩
 ·have hke:({e with r:=id,a:=w1,b:=w2}:iM).hs=fU T.df e.key:=r.k.hk e (p1.mem_iff.2 (bQ ..))
  refine⟨a.df▸r.k.sd,fun y hy=>?_,?_⟩
  ·rw [a.df]
   rcases ck.1 (p2.mem_iff.1 hy)with h|h
   ·rw [h];exact hke
   ·exact r.k.hk y (p1.mem_iff.2 (bJ _ h))
  ·have h1:=(p1.map (·.key)).nodup_iff.1 r.k.ku
   exact(p2.map (·.key)).nodup_iff.2 h1
 ·rw [a.df,r.df,e2,e1]
 ·rw [sn,←r.sh,←es,e2,e1]
 ·rw [hd]
  have h1:=(hpe.map (DE.q vo)).trans (r.es.trans (p1.map iM.q))
  rw [cU,cU,eq]at h1
  have h2:=tB h1
  refine(ZL.symm.map _).trans (List.Perm.trans ?_ (p2.symm.map _))
  rw [cU,cU]
  have e4:DE.q vo ({e0 with val:=val,a:=w1,b:=w2}:DE)=iM.q ({e with r:=id,a:=w1,b:=w2}:iM):=by
   unfold DE.q iM.q
   simp only
   rw [jq AI,eqk.1,eqk.2]
  rw [e4]
  exact h2.cons _
 ·rw [hd]at hx
  rcases dB hx with h|h
  ·exact r.mA x h
  ·rw [h];exact(bp.1 AI).1
theorem lZ.put(r:lZ nd vo t T){X:DE}{y:iM}(a:qB nd T kq T1)(p:T1.dc.Perm (y::T.dc)) (k1:oH T1) (sn:T1.sE=T.sE) (eq:X.q vo=y.q) (hv:X.val<vo.length) {a':Sl} (e2:t2={t with es:=Af t.es X,sl:=a'}):lZ kq vo t2 T1:=by
 have hd:t2.es=Af t.es X:=by rw [e2]
 have hpe:(Af t.es X).Perm (X::t.es):=by
  unfold Go.Ev.Af
  have:=gT (a:=X) (l₁:=t.es.take (j0 t.es X.hk)) (l₂:=t.es.drop (j0 t.es X.hk))
  rwa [eZ]at this
 refine⟨a.c,k1,by rw [a.df,r.df,e2],by rw [sn,←r.sh,e2],?_,fun x hx=>?_⟩
 ·rw [hd]
  refine(hpe.map _).trans (List.Perm.trans ?_ (p.symm.map _))
  rw [cU,cU,eq]
  exact r.es.cons _
 ·rw [hd]at hx
  rcases ck.1 (hpe.mem_iff.1 hx)with h|h
  ·rw [h];exact hv
  ·exact r.mA x h
end
section
variable {h h1 h2 g:Hp} {pb k n:Nat} {D:PL} {q1:HQ} {s1:RS} {nd kq:List di} {R:RP} {v:VD} {x:zg} {T T1 T2:TD} {t t' t1 t2:DT} {vo:LN} {es:List DE} {key:LN} {val w1 w2 id:Nat}
theorem arI(x:Pl h pb D k)(hk1:k≤200000)(hv:v∈D.vw)(ho:v.jp=true)(ht:D.W.de[v.id]?=some t){c:Sl}(sr:Zs h D.q c key)(hl:key.length≤4096)(iA:id=0∨D.s.da id)(AI:D.vo[val]?=some id)(hna:val∉lY D.W.gy D.lv)(hw1:w1<18446744073709551616)(hw2:w2<18446744073709551616)
  (hK:∀h4 q1 s1 kq (b:Bool) (e:Int),Ex h D.q h4 q1→PM h4 pb {D with q:=q1,s:=s1,nd:=kq} →
   (∀(a:Sl) (R2:RP),rx h4 {D with q:=q1,s:=s1,nd:=kq} a key→(∀h5 D5,Pl h5 pb D5 (k+1)→D5.hB=D.hB→R2 (vt #[vb b,vi e]) h5)→bq PG 149 #[vp (sa D.wb),vp (sa t.jY),.slice a.a a.n a.c,vi (val:Nat),uv w1,uv w2] h4 R2)→R (vt #[vb b,vi e]) h4) :
  bq PG 48 #[vp (sa v.tb),.slice c.a c.n c.c,uv (D.s.fk id),uv w1,uv w2] h R:=by
 obtain⟨t',T,LB,hT,yK,r,d,op⟩:=x.jp hv ho
 rw [ht]at LB
 obtain rfl:=bt LB
 obtain⟨tv,Fi,b1,b2,b3,b4,b5⟩:=x.w.wv.es t (bx ht)
 obtain⟨a1,a2⟩:=r.Bz tv (key:=key)
 have Ug:=fun w hw e he=>x.w.pg.bs w hw t (bx ht) yK e he
 have Ub:=x.w.wv.v1
 have BG:=(bp.1 AI).1
 have wV:val<D.W.eX.length:=by rw [←x.w.pg.mA];exact BG
 have vF:=r.sz
 have hol:=op.len
 have rl:=x.w.rl
 have gid:D.vo.getD val 0=id:=jq AI
 have noF:T.Bz key=none→iB t.es (fU t.df key,key)=false:=fun hf=>by
  rw [←qF]
  intro rA
  obtain⟨e,he,ek⟩:=lj rA
  obtain⟨y,hy,_⟩:=a2 e he ek
  rw [hf]at hy;cases hy
 have room:∀ {kq:List di} {T1:TD} {t1:DT},qB D.nd T kq T1→Stepped T T1→rv t t1→(∃dN,Lv kq (some id::D.s.bC) dN∧1+RS.mS kq dN=(D.W.gJ v.id t1).S val∧RS.mT kq dN=(D.W.gJ v.id t1).B val):=fun {kq T1 t1} an st hs=>by
  obtain⟨q1,_,_,q4,q5,_,_⟩:=hs.AZ
  have atn:t1.ib=true:=by unfold DT.ib at yK ⊢;rw [q4,q5];exact yK
  have p1:qK kq D.s.bC (D.W.gJ v.id t1) D.vo (D.to.set v.id T1) D.lv:=x.w.pg.IK ht hT yK an (r.step an st hs) atn (fun w hw e he=>Ug w hw e (q1▸he)) fun _ _=>oy
  have l:=p1.ib (v:=val) wV hna
  have w:=p1.dM (v:=val) wV hna l
  rw [gid]at l
  exact⟨_,l,w.1,w.2⟩
 refine aqw op r.k sr hl (by omega) iA hw1 hw2 (fun e rest h4 q1 s1 kq T1 hf p1 p2 sn a=>hK h4 q1 s1 kq false 0 a.ex (x.m.ex a.ex) fun ak R2 kk hR2=>?_) (fun h4 q1 s1 kq T1 lT hf an st ⟨mm,em⟩ wX a=>hK h4 q1 s1 lT false 31 a.ex (x.m.ex a.ex) fun ak R2 kk hR2=>?_) fun y h4 q1 s1 kq T1 lT T2 SS T3 hf an st an2 LF yk yr ya yb yh p2 _ _ sn2 eb k2 a=>hK h4 q1 s1 SS true 0 a.ex (x.m.ex a.ex) fun ak R2 kk hR2=>?_
 ·have m1:PM h4 pb {D with q:=q1,s:=s1,nd:=kq}:=x.m.ex a.ex
  have rA:iB t.es (fU t.df key,key)=true:=by
   cases rA:iB t.es (fU t.df key,key)with
   |true=>rfl
   |false=>rw [a1 rA]at hf;cases hf
  refine acF m1.wm x.w.wv ht kk.rd kk.n kk.b8 kk.rB wV (by omega) (by omega) (fun h=>by omega) (fun g Y' t1 e0 t2 hs _ _ Oz e2 u=>?_) (fun g Y' t1 _ _ h=>by rw [rA]at h;cases h) fun g Y' t1 cc a' t2 t3 _ _ _ h=>by rw [rA]at h;cases h
  obtain⟨e0',ane,ek0⟩:=lj rA
  rw [Oz]at ane
  obtain rfl:=bt ane
  obtain⟨y,hy,eq⟩:=a2 e0 Oz ek0
  rw [hf]at hy
  obtain rfl:=bt hy
  have Dj:lZ kq D.vo t2 T1:=r.GB Oz eq p1 a.n p2 sn hs AI e2
  obtain⟨QI,_,_,q4,q5,q6,_⟩:=hs.AZ
  have ur:∀e∈t2.es,(∃e1∈t.es,e.c=e1.c∧e.hs=e1.hs∧e.key=e1.key)∧(e.val=val∨e∈t.es):=fun e he=>by
   rw [e2]at he
   have he:e∈t1.es.set _ _:=he
   rw [QI]at he
   rcases dB he with h|h
   ·exact⟨⟨e,h,rfl,rfl,rfl⟩,.inr h⟩
   ·rw [h];exact⟨⟨e0,bx Oz,rfl,rfl,rfl⟩,.inl rfl⟩
  have Ag:t2.vw=t.vw∧t2.hd=t.hd∧t2.jY=t.jY∧t2.df=t.df:=by rw [e2];exact⟨q4,q5,q6,hs.AZ.2.1⟩
  have ehk:t2.es.map DE.hk=t.es.map DE.hk:=by
   rw [e2]
   show (t1.es.set _ _).map DE.hk=_
   rw [QI]
   apply cG
   intro j
   rw [bD,bD,eW]
   split
   ·rename_i e
    subst e
    rw [if_pos (bp.1 Oz).1,Oz];rfl
   ·rfl
  have Kz:TV t2:=⟨by rw [ehk];exact tv.pw,fun e he=>by
   obtain⟨⟨e1,h1,_,h3,h4⟩,_⟩:=ur e he
   rw [h3,h4,Ag.2.2.2]
   exact tv.hs e1 h1,by rw [Ag.2.2.2];exact tv.sd,by have:=congrArg List.length ehk;rw [bA,bA]at this;rw [this];exact tv.ln⟩
  refine hR2 g _ (x.Hm ht hT yK a u Dj ⟨Ag.1,Ag.2.1,Ag.2.2.1⟩ (x.w.wv.Kj Dj Kz (fun e he=>?_) ⟨by rw [Ag.1];exact b4,by rw [Ag.2.1];exact b5⟩) (fun e he=>?_) fun w hw e he=>?_) rfl
  ·rcases(ur e he).2 with h|h
   ·rw [h];exact wV
   ·exact Fi e h
  ·obtain⟨⟨e1,h1,h2,_⟩,_⟩:=ur e he
   exact .inl ⟨e1,h1,h2⟩
  ·rcases(ur e he).2 with h|h
   ·rw [h];exact fun e=>hna (e▸hw)
   ·exact Ug w hw e h
 ·have m1:PM h4 pb {D with q:=q1,s:=s1,nd:=lT}:=x.m.ex a.ex
  have rA:=noF hf
  refine acF m1.wm x.w.wv ht kk.rd kk.n kk.b8 kk.rB wV (by omega) (by omega) (fun h=>by omega) (fun g Y' t1 e0 t2 hs _ h=>by rw [rA]at h;cases h) (fun g Y' t1 hs _ _ _ u=>?_) fun g Y' t1 cc a' t2 t3 _ hs _ _ hr=>?_
  ·obtain⟨QI,q2,q3,q4,q5,q6,q7⟩:=hs.AZ
   exact hR2 g _ (x.Hm ht hT yK a u (r.step a.n st hs) ⟨q4,q5,q6⟩ (x.w.wv.step ht hs) (fun e he=>.inl ⟨e,QI▸he,rfl⟩) fun w hw e he=>Ug w hw e (QI▸he)) rfl
  ·obtain⟨dN,l,e1,e2⟩:=room an st hs
   have:=wX dN l
   rw [e1,e2,x.w.iN]at this
   exact absurd hr this
 ·have m1:PM h4 pb {D with q:=q1,s:=s1,nd:=SS}:=x.m.ex a.ex
  have rA:=noF hf
  refine acF m1.wm x.w.wv ht kk.rd kk.n kk.b8 kk.rB wV (by omega) (by omega) (fun h=>by omega) (fun g Y' t1 e0 t2 hs _ h=>by rw [rA]at h;cases h) (fun g Y' t1 hs _ _ wX u=>?_) fun g Y' t1 cc a' t2 t3 ZP hs _ _ _ e2 Kz e3 u=>?_
  ·obtain⟨dN,l,e1,e2⟩:=room an st hs
   have:=LF dN l
   rw [e1,e2,x.w.iN]at this
   exact absurd this wX
  ·obtain⟨QI,qs,qb,q4,q5,q6,q7⟩:=hs.AZ
   have arl:lZ kq D.vo t1 T1:=r.step an st hs
   have Dj:lZ lT D.vo t2 T2:=by
    refine arl.put (y:=y) an2 p2 k2 sn2 ?_ BG e2
    unfold DE.q iM.q
    rw [gid,yk,yr,ya,yb,yh,r.df]
   have Ag:t2.vw=t.vw∧t2.hd=t.hd∧t2.jY=t.jY:=by rw [e2];exact⟨q4,q5,q6⟩
   have ur:∀e∈t2.es,e∈t.es∨(e.val=val∧e.c=cc):=fun e he=>by
    rw [e2]at he
    have he:e∈Af t1.es _:=he
    rw [QI]at he
    unfold Af at he
    rcases bI.1 he with h|h
    ·exact .inl (dK h)
    ·rcases ck.1 h with h|h
     ·exact .inr (by rw [h];exact⟨rfl,rfl⟩)
     ·exact .inl (lE h)
   have ahN:t2.ib=true:=by unfold DT.ib at yK ⊢;rw [Ag.1,Ag.2.1];exact yK
   have am9:∀w∈lY D.W.gy D.lv,∀e∈t2.es,e.val≠w:=fun w hw e he=>by
    rcases ur e he with h|h
    ·exact Ug w hw e h
    ·rw [h.1];exact fun e=>hna (e▸hw)
   have pg2:qK lT D.s.bC (D.W.gJ v.id t2) D.vo (D.to.set v.id T2) D.lv:=x.w.pg.IK ht hT yK (an.trans an2) Dj ahN am9 fun _ _=>oy
   have z:=Dj.sz
   have ebk:t2.bk=2 ^ T2.nw.j:=congrArg (fun z:Nat × Nat × Nat=>z.1) Dj.sh
   have Vk:lZ SS D.vo t3 T3:=by
    rw [e3]
    refine MT (n:=2*t2.bk) pg2 Ub Dj eb x.w.iN (by rw [←ebk,z.2.2.2]) fun _=>?_
    rw [ebk,mr,jF]
   have h3:t3.es=t2.es∧t3.vw=t2.vw∧t3.hd=t2.hd∧t3.jY=t2.jY∧t3.df=t2.df:=by
    rw [e3]
    split
    ·obtain⟨z1,z2,z3,z4,z5,_⟩:=C8 (D.W.gJ v.id t2) t2 (2*t2.bk)
     exact⟨z1,z3,z4,z5,z2⟩
    ·exact⟨rfl,rfl,rfl,rfl,rfl⟩
   have tv3:TV t3:=⟨by rw [h3.1];exact Kz.pw,by rw [h3.1,h3.2.2.2.2];exact Kz.hs,by rw [h3.2.2.2.2];exact Kz.sd,by rw [h3.1];exact Kz.ln⟩
   refine hR2 g _ (x.Hm ht hT yK a u Vk ⟨by rw [h3.2.1];exact Ag.1,by rw [h3.2.2.1];exact Ag.2.1,by rw [h3.2.2.2.1];exact Ag.2.2⟩ (x.w.wv.Kj Vk tv3 (fun e he=>?_) ⟨by rw [h3.2.1,Ag.1];exact b4,by rw [h3.2.2.1,Ag.2.1];exact b5⟩) (fun e he=>?_) fun w hw e he=>am9 w hw e (h3.1▸he)) rfl
   ·rcases ur e (h3.1▸he)with h|h
    ·exact Fi e h
    ·rw [h.1];exact wV
   ·rcases ur e (h3.1▸he)with h|h
    ·exact .inl ⟨e,h,rfl⟩
    ·exact .inr (by rw [h.2];exact ZP)
end
section
variable {h h1 h' h2 g:Hp} {pb k i n:Nat} {D:PL} {q1:HQ} {s1:RS} {nd kq:List di} {R:RP} {v:VD} {t:DT} {vo:LN} {Y2:Mem} {W:DW} {Y:Mem} {wb:Nat}
theorem rD {a:Int}{n:Nat}(hn:0<n)(Ud:n<100000000)(ha:-9223372036854775808≤a∧a<9223372036854775808){R:RP}(hR:R (vi (a%(n:Int))) h):bq PG 21 #[vi a,vi (n:Int)] h R:=by
 refine acr ?_
 unfold aon
 have m1:=jk a (b:=(n:Int)) (by omega)
 have m2:=gI a (b:=(n:Int)) (by omega)
 refine⟨by omega,ca (fun aAe=>?_) fun wW=>?_⟩
 ·have e:Int.tmod a (n:Int)+(n:Int)=a%(n:Int):=by
   have h1:=Int.tmod_eq_emod (a:=a) (b:=(n:Int))
   split at h1
   ·omega
   ·omega
  rw [e,bU (by omega) (by omega)]
  exact hR
 ·have e:Int.tmod a (n:Int)=a%(n:Int):=by
   have h1:=Int.tmod_eq_emod (a:=a) (b:=(n:Int))
   have h3:=gI a (b:=(n:Int)) (by omega)
   split at h1
   ·omega
   ·omega
  rw [e]
  exact hR
def PL.prog(D:PL)(q:HQ)(s:RS)(nd:List di):PL:={D with q:=q,s:=s,nd:=nd}
theorem Pl.prog(x:Pl h pb D k)(g:Gs h' q1 s1 kq)(ex:Ex h D.q h' q1)(pg:qK kq s1.bC D.W D.vo D.to D.lv)(hr:wQ s1.bC D.s.bC)(lm:s1.cM=D.s.cM)(hn:D.nd.length≤kq.length)(rl:s1.bC.length≤D.s.bC.length+4):Pl h' pb (D.prog q1 s1 kq) (k+1):=by
 have b:=x.w.bd
 have h3:=x.w.rl
 exact⟨x.m.ex ex,x.r.ex g ex,pg,x.w.hc.AZ hr (fun _ _=>rfl) rfl rfl (fun _ _=>rfl) fun i t h=>⟨t,h,rfl,rfl⟩,x.w.wv,lm.trans x.w.iN,bP x.w.n1 hn,by show s1.bC.length≤_;omega,by show D.W.eX.length≤_∧D.W.de.length≤_∧D.W.gy.length≤_∧D.vw.length≤_∧D.ho.length≤_;omega⟩
theorem Pl.room(x:Pl h pb D k)(r w:Nat):D.s.zf r w↔iP D.W.iN (D.W.S 0) (D.W.B 0) (1+r+w):=by
 obtain⟨dN,l⟩:=x.w.pg.aa3 x.w.wv.v1
 obtain⟨w1,w2⟩:=x.w.pg.Iw x.w.wv.v1 l
 rw [RS.Hz x.r.g.v x.r.g.sh l,w1,w2,x.w.iN]
theorem WM.ak9 {ob:Option Nat}{c:LV}{z:Nat × Nat}{a':OA}{c' n':Nat}(x:WM h Y wb W)(s:Sep h1 (Y.jR 2 ob c)) (il:kO 2 (Y.jR 2 ob c) 2 ⟨a',n',c'⟩ ((W.eX++[z]).flatMap F6)) (cg:ui h Y h1 (Y.jR 2 ob c)) {p:Addr} (hp:p=(ad wb).add 1) {K:Hp→Prop}
  (hK:∀h2 Y2,WM h2 Y2 wb {W with eX:=W.eX++[z],vs:=⟨a',n',c'⟩}→ui h Y h2 Y2→(∀y,y≠1→y≠2→Y2.loc y=Y.loc y∧Y2.fM y=Y.fM y)→K h2):gZ h1 p∧gi (fy h1 p (.slice a' n' c')) K:=by
 subst hp
 have l1:(Y.jR 2 ob c).loc 1=some wb:=by rw [Mem.fR _ _ _ (by omega)];exact x.l1
 have c1:(Y.jR 2 ob c).fM 1=[wv W.iN,.slice W.vs.a W.vs.n W.vs.c,.slice W.ts.a W.ts.n W.ts.c,.slice W.bs.a W.bs.n W.bs.c]:=by rw [Mem.gr _ _ _ (by omega)];exact x.c1
 refine s.st l1 (cm _ _) (by rw [c1];simp) fun h2 s2 c2=>?_
 have off:∀y,y≠1→y≠2→((Y.jR 2 ob c).jR 1 (some wb) (((Y.jR 2 ob c).fM 1).set 1 (.slice a' n' c'))).loc y=Y.loc y∧((Y.jR 2 ob c).jR 1 (some wb) (((Y.jR 2 ob c).fM 1).set 1 (.slice a' n' c'))).fM y=Y.fM y:=fun y h1 h2=>by
  rw [Mem.fR _ _ _ h1,Mem.gr _ _ _ h1,Mem.fR _ _ _ h2,Mem.gr _ _ _ h2]
  exact⟨rfl,rfl⟩
 exact hK h2 _ ⟨s2,Mem.gM ..,by rw [Mem.jT,c1];rfl,il.oR (by omega),x.ta.iy (off 3 (by omega) (by omega)),x.ba.iy (off 4 (by omega) (by omega)),fun j t ht=>(x.tm j t ht).rB (cg.trans c2) (off _ (by omega) (by omega)) (off _ (by omega) (by omega))⟩ (cg.trans c2) off
end
end Go.Ev
