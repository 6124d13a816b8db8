/- want, become, fit, Collect, Resize: as the d. No condition. -/
import Derived.Test.YtjigacanjlppiaaGreatDoorQ6
set_option linter.all false
set_option maxRecDepth 1000000
open Go.IntKind (wrap)
namespace Go.Ev
open Go.Proofs
def wG(u n:Nat):Nat:=if 3*n<4*u∧0<n then wG u (2*n)else n
termination_by 4*u-n
decreasing_by omega
def sG(u:Nat):Nat:=wG u 64
theorem Kt {u n:Nat}(h:3*n<4*u)(h0:0<n):wG u n=wG u (2*n):=by rw [wG];rw [if_pos ⟨h,h0⟩]
theorem BM {u n:Nat}(h:4*u≤3*n):wG u n=n:=by rw [wG];rw [if_neg (fun c=>by omega)]
theorem Ku(u:Nat):∀k n,0<n→4*u-n≤k→n≤wG u n∧4*u≤3*wG u n∧(wG u n=n∨3*wG u n<8*u):=by
 intro k
 induction k with
 |zero=>intro n h0 h;rw [BM (by omega)];exact⟨bH _,by omega,.inl rfl⟩
 |succ k ih =>
  intro n h0 h
  by_cases hc:3*n<4*u
  ·rw [Kt hc h0]
   obtain⟨h1,h2,h3⟩:=ih (2*n) (by omega) (by omega)
   refine⟨by omega,h2,.inr ?_⟩
   rcases h3 with h3|h3
   ·rw [h3];omega
   ·exact h3
  ·rw [BM (by omega)];exact⟨bH _,by omega,.inl rfl⟩
theorem zL(u:Nat):64≤sG u∧4*u≤3*sG u∧(sG u=64∨3*sG u<8*u):=Ku u _ 64 (by omega) (bH _)
theorem Qc {u:Nat}(hu:u<100000000){h:Hp}{R:RP}(hR:R (vi (sG u:Nat)) h):bq PG 121 #[vi (u:Nat)] h R:=by
 refine Yt ?_
 unfold afl
 refine ME (fun q s0 s3 h'=>∃n:Nat,q=4*u-n∧s0=(u:Int)∧s3=(n:Int)∧0<n∧n<1000000000∧wG u n=sG u∧h'=h) (4*u-64) ⟨64,rfl,rfl,rfl,by omega,by omega,rfl,rfl⟩ ?_
 rintro q s0 s3 g h' ⟨n,rfl,rfl,rfl,h0,h1,h2,rfl⟩
 unfold Po
 rw [bU (x:=(4:Int)*u) (by omega) (by omega),bU (x:=(3:Int)*n) (by omega) (by omega)]
 refine ca (fun fE=>?_) fun o5=>?_
 ·rw [bU (by omega) (by omega)]
  exact⟨4*u-2*n,by omega,2*n,rfl,rfl,by omega,by omega,by omega,by rw [←h2,Kt (by omega) h0],rfl⟩
 ·rw [←h2,BM (by omega)]at hR
  exact hR
namespace RS
def eY(s:RS)(n:Nat):RS:=if n=s.dJ then s else {s with dJ:=n,EJ:=wrap .i64 (s.EJ+1)}
def tH(s:RS)(k:Nat):RS :=
 if 3*s.dJ<4*(s.cZ+k)then(if s.dJ<min (sG (s.cZ+k)) ((s.cM-s.dI) / 2)then s.eY (min (sG (s.cZ+k)) ((s.cM-s.dI) / 2))else s)
 else if 64<s.dJ∧8*(s.cZ+k)<s.dJ then s.eY (sG (s.cZ+k))else s
def collect(s:RS):RS:=s.ci.tH 0
theorem Inv.Vj {s t:RS}(v:s.Inv)(e1:t.eB=s.eB)(e2:t.dG=s.dG)(e3:t.cK=s.cK)(e4:t.bC=s.bC)(e5:t.cM=s.cM)(e6:t.cZ=s.cZ)(e7:t.dI=s.dI)(e8:t.gU=s.gU)(e9:t.gK=s.gK)
  (h1:64≤t.dJ) (h2:2*t.dJ+t.dI≤t.cM) (h3:t.cZ≤t.dJ):t.Inv:=by
 have eo:∀id,t.dS id=s.dS id:=fun id=>by unfold dS;rw [e1]
 have es:∀id,t.size id=s.size id:=fun id=>by unfold size;rw [eo]
 have eh:∀id,t.da id↔s.da id:=fun id=>by unfold da;rw [e2,e3]
 refine⟨by rw [e5];exact v.l1,by rw [e5];exact v.l2,h1,h2,?_,h3,?_,by rw [e3];exact v.Sp,by rw [e4];exact v.rl,by rw [e2];exact v.VP,?_,?_,?_,?_,?_,by rw [e1];exact v.ob,by rw [e9];exact v.kp,by rw [e8];exact v.sn⟩
 ·rw [e6,e2,oN fun x _=>es x];exact v.u1
 ·rw [e7,e3,v.lg]
  congr 1
  exact cD fun x _=>by rw [es]
 ·intro id iA
  rw [e2]at iA
  rw [e1,eo,es,e2,lH _ _ _ fun x _=>es x]
  exact v.sm id iA
 ·intro i id hi h0
  rw [e3]at hi
  rw [e1,eo,es]
  exact v.sl i id hi h0
 ·intro id iA r hr
  rw [eo]at hr
  rw [eh]at iA ⊢
  exact v.rf id iA r hr
 ·intro id iA
  rw [e4]at iA
  rw [eh]
  exact v.rt id iA
 ·intro id iA
  rw [eh]at iA
  rw [eo]
  exact v.NK id iA
theorem Inv.eY {s:RS}(v:s.Inv){n:Nat}(h1:64≤n)(h2:2*n+s.dI≤s.cM)(h3:s.cZ≤n):(s.eY n).Inv:=by
 unfold RS.eY
 split
 ·exact v
 ·exact v.Vj rfl rfl rfl rfl rfl rfl rfl rfl rfl h1 h2 h3
theorem Inv.tH {s:RS}(v:s.Inv){k:Nat}:(s.tH k).Inv:=by
 have h1:=v.h1;have h2:=v.h2;have h3:=v.u2
 obtain⟨w1,w2,w3⟩:=zL (s.cZ+k)
 unfold RS.tH
 split
 ·split
  ·exact v.eY (by omega) (by omega) (by omega)
  ·exact v
 ·split
  ·exact v.eY (by omega) (by omega) (by omega)
  ·exact v
theorem Inv.collect {s:RS}(v:s.Inv):s.collect.Inv:=v.ci.tH
end RS
section
variable {h:Hp} {hb:Nat} {bR:Nat→io} {m:MH} {G:xd} {s:RS} {sp:List dg}
theorem Cr {α:Type}(l:List α)(i:Nat)(f:α→α):(l.modify i f).drop (i+1)=l.drop (i+1):=by
 apply cG
 intro j
 rw [fi,fi,dQ]
 cases l[i+1+j]? with
 |none=>rfl
 |some x =>
  show some (if i=i+1+j then f x else x)=some x
  rw [if_neg (by omega)]
theorem IG {os:List dg}{i:Nat}{f:dg→dg}(hf:∀o,(f o).size=o.size):(os.modify i f).map dg.size=os.map dg.size:=by
 apply cG
 intro j
 rw [bD,bD,dQ]
 cases os[j]? with
 |none=>rfl
 |some o=>by_cases h:i=j<;>simp [h,hf]
theorem SI {os:List dg}(hm:os.map dg.size=s.dG.map s.size)(k:Nat):pos os k=1+s.fG (s.dG.take k):=by
 unfold pos RS.fG
 rw [sf,mM,hm,←mM]
theorem Nz {os:List dg}(hm:os.map dg.size=s.dG.map s.size):Go.Ev.cZ os=1+s.fG s.dG:=by
 unfold RS.fG
 rw [sf,hm]
def J0(m:MH)(G:xd)(Ln:jt):LV:=((kB m G).set 2 (vp none)).set 1 (vp (sa Ln.pb))
theorem yQ(v:s.Inv)(rp:dP h hb bR (s.dM sp) G) {n:Nat} (Q5:1≤n) (Ud:n≤1048576) (hn3:s.cZ≤n) {R:RP}
  (hR:∀h' cR G' uK,dP h' hb cR ((s.eY n).dM uK) G'→iV h bR h' cR→R (vt #[]) h'):bq PG 87 #[vp (sa hb),vi (n:Nat)] h R:=by
 have i1:=v.u1
 have i2:=v.u2
 have i3:=v.h2
 have i4:=v.l2
 refine abO ?_
 unfold anO
 have c1:cell h ((ad hb).add 1)=some (vp (sa G.Lh.pb)):=(rp.c 1).trans rfl
 obtain⟨wch,fch,fsh,ra⟩:=rp.dJ
 refine bw ⟨_,c1,ru ra ⟨_,rfl,?_⟩⟩
 have hz:(s.dM sp).hz=s.dJ:=rfl
 rw [hz]
 by_cases iS:n=s.dJ
 ·refine cr (by rw [iS];simp) ?_
  have e:s.eY n=s:=by unfold RS.eY;rw [if_pos iS]
  rw [e]at hR
  exact hR h bR G sp rp (iV.refl h bR)
 refine cj (by simp;omega) (bw ⟨_,c1,bw ?_⟩)
 rw [cm]
 refine⟨rp.gZ (by omega),dh fun h2 e2=>?_⟩
 have k2:bY (fun b=>b=hb) h h2:=e2▸gf h 2 _ rfl
 have mi:eM h2 hb ((kB (s.dM sp) G).set 2 (vp none)):=by rw [e2];exact hG rp.row 2 _
 refine BA (fun jz=>absurd ⟨by omega,by omega⟩ jz) fun Ln h3 _ hLn hfn k3=>⟨_,_,rfl,bw ?_⟩
 have zQ:=bF k3 mi id
 rw [cm]
 refine⟨jH zQ (by show 1<19;omega),dh fun h4 e4=>?_⟩
 have k4:bY (fun b=>b=hb) h3 h4:=e4▸gf h3 1 _ rfl
 have GG:eM h4 hb (J0 (s.dM sp) G Ln):=by rw [e4];exact hG zQ 1 _
 have Dm:bY (fun b=>b=hb) h h4:=(k2.trans (k3.mono fun _ _ e=>e.elim)).trans k4
 have azY:h.size≤h2.size:=k2.1
 have hhb:=rp.fE
 have ann:Ar h4 Ln n []:=by
  rw [bu]at hLn
  exact hLn.eG k4 fun b fV e=>by have:=hfn b fV;omega
 have at7:Ar h4 G.Lh s.dJ (s.dG.map s.enc):=rp.dJ.eG Dm fun b fV e=>by have:=rp.nu b fV;rw [e,rp.rh]at this;cases this
 have ahO:∀b,Ln.fp b→b<h4.size:=ann.lt
 let EH:=nR bR h.size Ln.fp .dC
 have q4:tq h4 hb EH (s.dM sp) G:=rp.rest.move Dm (fun b e=>.inr (.inr (.inl (e▸rp.rh)))) (fun b x fV e _ _ _=>(gh fV).trans e) fun b fV=>qp (rp.fresh b (bP Dm.1 fV)) fun hf=>by have:=ahO b hf;omega
 have ho4:∀b,G.Lh.fp b→EH b=.dJ:=fun b fV=>(gh (rp.dJ.lt b fV)).trans (rp.nu b fV)
 have hn4:∀b,Ln.fp b→EH b=.dC:=fun b fV=>qq (by have:=hfn b fV;omega) fV
 have x4:iV h bR h4 EH:=iV.of (bR:=bR) Dm (fun b e=>by rw [e,rp.rh];nofun) fun b fV ho=>(gh fV).trans ho
 refine OP (fun q s0 s1 s4 s5 h'=>∃(k:Nat) (cR:Nat→io) (Ln':jt) (os:List dg),k≤s.dG.length∧q=s.dG.length-k∧s0=some (ad hb)∧s1=(n:Int)∧s4=some (ad G.Lh.pb)∧s5=((1+s.fG (s.dG.take k):Nat):Int) ∧
  eM h' hb (J0 (s.dM sp) G Ln')∧tq h' hb cR (s.dM sp) G∧Ar h' G.Lh s.dJ os∧(∀b,G.Lh.fp b→cR b=.dJ)∧os.map dg.size=s.dG.map s.size∧os.drop k=(s.dG.drop k).map s.enc ∧
  Ar h' Ln' n ((s.dG.take k).map s.enc)∧(∀b,Ln'.fp b→cR b=.dC∧h.size≤b)∧iV h bR h' cR) s.dG.length
  ⟨0,EH,Ln,s.dG.map s.enc,cP _,rfl,rfl,rfl,rfl,rfl,GG,q4,at7,ho4,by rw [fh];exact cD fun x _=>s.kT x,rfl,ann,fun b fV=>⟨hn4 b fV,by have:=hfn b fV;omega⟩,x4⟩ ?_
 rintro q s0 s1 s4 s5 g h5 ⟨k,KN,L5,os,hk,rfl,rfl,rfl,rfl,rfl,wS,q5,at6,ho5,hms,WE,at8,hn5,x5⟩
 unfold W4
 obtain⟨wco,fco,fso,rao⟩:=at6
 obtain⟨wcn,fcn,fsn,ran⟩:=at8
 have hpk:=SI hms k
 have hus:=Nz hms
 refine nC rao ⟨_,rfl,?_⟩
 rw [hus]
 refine ca (fun fE=>?_) fun o5=>?_
 ·have zb:k<s.dG.length:=by
   rcases eS k s.dG.length with hl|hl
   ·exact hl
   ·rw [eT hl]at fE;omega
  obtain⟨x,hx⟩:∃x,s.dG[k]?=some x:=⟨_,br zb⟩
  have ahF:os[k]?=some (s.enc x):=by
   have:=congrArg (fun l=>l[0]?) WE
   simpa [fi,hx]using this
  have hxs:x∈s.dG:=bx hx
  have hh:s.da x:=.inl hxs
  have Ta:xF os (pos os k:Int)=vt #[vi ((s.enc x).kind:Int),vi ((s.enc x).cY.length:Int),vi ((s.enc x).cN.length:Int),vi 0]:=by
   unfold xF
   rw [iD,lA (bp.1 ahF).1]
   simp only [dX,ahF]
   rfl
  rw [←hpk]
  refine qz rao ?_
  rw [Ta]
  have c1':cell h5 ((ad hb).add 1)=some (vp (sa L5.pb)):=ia wS rfl
  refine⟨_,_,_,_,rfl,bw ⟨_,c1',?_⟩⟩
  have GV:1+s.fG (s.dG.take k)+s.size x=1+s.fG (s.dG.take (k+1)):=by rw [RS.iO hx,RS.sK];omega
  have uc:=s.vK s.dG (k+1)
  have hun:Go.Ev.cZ ((s.dG.take k).map s.enc)=1+s.fG (s.dG.take k):=RS.AO (fun id=>s.kT id) _
  refine Qi rao ran (fun b h1 h2=>by have:=ho5 b h1;rw [(hn5 b h2).1]at this;cases this) ahF rfl (by rw [hun,s.kT];omega) fun h6 L6 at4 anm g6=>⟨_,_,rfl,?_⟩
  obtain⟨g1,g2,g3⟩:=g6
  have ato:∀b,L6.fp b→b<h6.size:=anm.lt
  have xb:∀b,G.Lh.fp b→b<h5.size:=rao.lt
  have nhd:¬(G.Lh.fp hb∨L5.fp hb):=fun e=>by
   rcases e with e|e
   ·have:=ho5 hb e;rw [q5.rh]at this;cases this
   ·have:=(hn5 hb e).1;rw [q5.rh]at this;cases this
  refine⟨s.dG.length-(k+1),by omega,k+1,nR KN h5.size L6.fp .dC,L6,os.modify k fun o=>{o with rQ:=some (Go.Ev.cZ ((s.dG.take k).map s.enc))},zb,rfl,rfl,rfl,rfl,?_,?_,?_,at4,?_,?_,?_,?_,?_,?_⟩
  ·have e1:(s.enc x).cY.length=(s.dS x).cY.length:=bA ..
   have e2:(s.enc x).cN.length=(s.dS x).cN.length:=rfl
   have e3:s.size x=1+(s.dS x).cY.length+(s.dS x).cN.length:=rfl
   rw [e1,e2,d9 (x:=(1:Int)+((s.dS x).cY.length:Int)) (by omega) (by omega),d9 (x:=(1:Int)+((s.dS x).cY.length:Int)+((s.dS x).cN.length:Int)) (by omega) (by omega),hpk,d9 (by omega) (by omega)]
   omega
  ·have:=bF g3 wS nhd
   unfold J0 at this ⊢
   rw [g1]
   exact this
  ·exact q5.move g3 (fun b e=>e.elim (fun e=>.inl (ho5 b e)) fun e=>.inr (.inl (hn5 b e).1)) (fun b y fV e _ _ _=>(gh fV).trans e) fun b fV=>qp (q5.fresh b (bP g3.1 fV)) fun hf=>by have:=ato b hf;omega
  ·exact fun b fV=>(gh (xb b fV)).trans (ho5 b fV)
  ·exact(IG (f:=fun o=>{o with rQ:=some (Go.Ev.cZ ((s.dG.take k).map s.enc))}) fun _=>rfl).trans hms
  ·rw [Cr]
   have:=congrArg (List.drop 1) WE
   simpa [tA]using this
  ·rw [RS.iO hx,cx];exact anm
  ·intro b fV
   rcases eS b h5.size with hl|hl
   ·rw [gh hl]
    rcases g2 b fV with h|h
    ·exact hn5 b h
    ·omega
   ·exact⟨qq hl fV,bP x5.1 hl⟩
  ·refine x5.trans (iV.of (bR:=KN) g3 (fun b e=>?_) fun b fV ho=>(gh fV).trans ho)
   rcases e with e|e
   ·rw [ho5 b e];nofun
   ·rw [(hn5 b e).1];nofun
 ·have:k=s.dG.length:=by
   rcases eS k s.dG.length with hl|hl
   ·have h1:=RS.sK s (s.dG.take k) s.dG[k]
    have h2:=s.vK s.dG (k+1)
    rw [RS.iO (br hl),h1]at h2
    have:1≤s.size s.dG[k]:=by unfold RS.size nW.size;omega
    omega
   ·omega
  subst this
  rw [dE]at ran
  refine BA (fun jz=>absurd ⟨by omega,by omega⟩ jz) fun Lz h6 _ hLz hfz k6=>⟨_,_,rfl,bw ?_⟩
  rw [bu]at hLz
  have alp:=bF k6 wS id
  rw [cm]
  refine⟨jH alp (by show 2<19;omega),dh fun h7 e7=>?_⟩
  have k7:bY (fun b=>b=hb) h6 h7:=e7▸gf h6 2 _ rfl
  have aaD:=hG alp 2 (vp (sa Lz.pb))
  rw [←e7]at aaD
  have c17:cell h7 (((ad hb).add 10).add 7)=some (vi s.EJ):=by rw [nD];exact(bS aaD 17).trans rfl
  refine bw ⟨_,c17,bw ?_⟩
  rw [nD]
  refine⟨jH aaD (by show 17<19;omega),dh fun h8 e8=>?_⟩
  have k8:bY (fun b=>b=hb) h7 h8:=e8▸gf h7 17 _ rfl
  have alo:=hG aaD 17 (vi (wrap .i64 (s.EJ+1)))
  rw [←e8]at alo
  have k58:bY (fun b=>b=hb) h5 h8:=((k6.mono fun _ _ e=>e.elim).trans k7).trans k8
  have aAz:hb<h5.size:=eE wS
  have asG:∀b,Lz.fp b→b<h8.size:=fun b fV=>bZ (hLz.lt b fV) (bP k7.1 k8.1)
  have abg:∀b,L5.fp b→b<h5.size:=ran.lt
  have hzn:∀b,Lz.fp b→¬L5.fp b:=fun b h1 h2=>by have:=hfz b h1;have:=abg b h2;omega
  let zq:Nat→io:=fun b=>if L5.fp b then .dJ else if Lz.fp b then .dC else KN b
  have r8n:∀b,L5.fp b→zq b=.dJ:=fun b fV=>if_pos fV
  have r8z:∀b,Lz.fp b→zq b=.dC:=fun b fV=>(if_neg (hzn b fV)).trans (if_pos fV)
  have r8o:∀b,¬L5.fp b→¬Lz.fp b→zq b=KN b:=fun b h1 h2=>(if_neg h1).trans (if_neg h2)
  have q8:tq h8 hb zq (s.dM sp) G:=q5.move k58 (fun b e=>.inr (.inr (.inl (e▸q5.rh))))
   (fun b y fV e h1 h2 h3=>(r8o b (fun hf=>h2 (e▸(hn5 b hf).1)) fun hf=>by have:=hfz b hf;omega).trans e)
   fun b fV=>(r8o b (fun hf=>by have:=abg b hf;have:=k58.1;omega) fun hf=>by have:=asG b hf;omega).trans (q5.fresh b (bP k58.1 fV))
  have eb:(s.eY n)={s with dJ:=n,EJ:=wrap .i64 (s.EJ+1)}:=by unfold RS.eY;rw [if_neg iS]
  have q9:tq h8 hb zq ((s.eY n).dM []) {G with Lh:=L5,Ls:=Lz}:=by
   rw [eb]
   exact q8.cast rfl rfl rfl rfl rfl rfl rfl rfl rfl rfl rfl rfl rfl
  refine hR h8 zq {G with Lh:=L5,Ls:=Lz} [] (q9.rep ?_ ?_ r8n ?_ r8z) (x5.trans (iV.of (bR:=KN) k58 (fun b e=>by rw [e,q5.rh];nofun) fun b fV ho=>?_))
  ·rw [eb];exact alo
  ·rw [eb]
   exact Ar.eG (⟨_,_,_,ran⟩:Ar h5 L5 n (s.dG.map s.enc)) k58 fun b fV e=>by have:=(hn5 b fV).1;rw [e,q5.rh]at this;cases this
  ·rw [eb]
   exact hLz.eG (k7.trans k8) fun b fV e=>by have:=hfz b fV;omega
  ·refine(r8o b (fun hf=>?_) fun hf=>by have:=hfz b hf;omega).trans ho
   have:=(hn5 b hf).1
   rw [ho]at this;cases this
end
namespace RS
def lG(s:RS)(n:Int):RS × Int :=
 if n<64∨n>524288 then(s,36)
 else if s.ci.cZ>n∨2*n+s.ci.dI>s.cM then(s.ci,31)
 else(s.ci.eY n.toNat,0)
theorem oz {s:RS}(v:s.Inv)(sp:List dg):Go.Ev.cZ (s.dM sp).dJ=s.cZ:=(AO (fun id=>s.kT id) _).trans v.u1.symm
theorem Inv.lG {s:RS}(v:s.Inv)(n:Int):(s.lG n).1.Inv:=by
 unfold RS.lG
 split
 ·exact v
 ·split
  ·exact v.ci
  ·have:s.ci.cM=s.cM:=rfl
   exact v.ci.eY (by omega) (by omega) (by omega)
end RS
section
variable {h:Hp} {hb:Nat} {bR:Nat→io} {G:xd} {s:RS} {sp:List dg}
theorem Jo(v:s.Inv)(rp:dP h hb bR (s.dM sp) G) {k:Nat} (hk:k≤1000000) {R:RP}
  (hR:∀h' cR G' uK,dP h' hb cR ((s.tH k).dM uK) G'→iV h bR h' cR→R (vt #[]) h'):bq PG 71 #[vp (sa hb),vi (k:Nat)] h R:=by
 have i1:=v.u1
 have i2:=v.u2
 have i3:=v.h2
 have i4:=v.l2
 have i5:=v.h1
 obtain⟨w1,w2,w3⟩:=zL (s.cZ+k)
 refine abU ?_
 unfold anT
 have c1:cell h ((ad hb).add 1)=some (vp (sa G.Lh.pb)):=(rp.c 1).trans rfl
 have c0:cell h (ad hb)=some (vi (s.cM:Nat)):=rp.c0
 have c6:cell h ((ad hb).add 6)=some (vi (s.dI:Nat)):=(rp.c 6).trans rfl
 obtain⟨wch,fch,fsh,ra⟩:=rp.dJ
 have hu:=RS.oz v sp
 have hz:(s.dM sp).hz=s.dJ:=rfl
 refine bw ⟨_,c1,_,nC ra ⟨rfl,rfl⟩,bw ⟨_,c1,_,ru ra ⟨rfl,rfl⟩,?_⟩⟩
 rw [hu,hz]
 have e0:wrap .i64 ((s.cZ:Int)+(k:Int))=((s.cZ+k:Nat):Int):=by rw [d9 (by omega) (by omega)];omega
 rw [e0,d9 (x:=(4:Int)*_) (by omega) (by omega),d9 (x:=(3:Int)*_) (by omega) (by omega),d9 (x:=(8:Int)*_) (by omega) (by omega)]
 refine ca (fun hc=>?_) fun hc=>?_
 ·have hc:3*s.dJ<4*(s.cZ+k):=by omega
  refine⟨_,Qc (by omega) ⟨rfl,rfl⟩,bw ⟨_,c0,bw ⟨_,c6,by omega,?_⟩⟩⟩
  have e1:wrap .i64 (Int.tdiv (wrap .i64 ((s.cM:Int)-(s.dI:Int))) (2:Int))=(((s.cM-s.dI) / 2:Nat):Int):=by
   rw [d9 (x:=(s.cM:Int)-(s.dI:Int)) (by omega) (by omega),yw (by omega),d9 (by omega) (by omega)];omega
  have e2:(if(((s.cM-s.dI) / 2:Nat):Int)<((sG (s.cZ+k):Nat):Int)then(((s.cM-s.dI) / 2:Nat):Int)else((sG (s.cZ+k):Nat):Int))=((min (sG (s.cZ+k)) ((s.cM-s.dI) / 2):Nat):Int):=by
   split<;>omega
  rw [e1,e2]
  have ef:s.tH k=if s.dJ<min (sG (s.cZ+k)) ((s.cM-s.dI) / 2)then s.eY (min (sG (s.cZ+k)) ((s.cM-s.dI) / 2))else s:=by unfold RS.tH;rw [if_pos hc]
  refine ca (fun ht=>?_) fun ht=>?_
  ·rw [ef,if_pos (by omega)]at hR
   exact yQ v rp (by omega) (by omega) (by omega) fun h' cR G' uK wR x'=>⟨rfl,hR h' cR G' uK wR x'⟩
  ·rw [ef,if_neg (by omega)]at hR
   exact hR h bR G sp rp (iV.refl h bR)
 ·have hc:¬3*s.dJ<4*(s.cZ+k):=by omega
  have ef:s.tH k=if 64<s.dJ∧8*(s.cZ+k)<s.dJ then s.eY (sG (s.cZ+k))else s:=by unfold RS.tH;rw [if_neg hc]
  refine ca (fun h1=>?_) fun h1=>?_
  ·unfold Rn
   refine ca (fun h2=>?_) fun h2=>?_
   ·rw [ef,if_pos (by omega)]at hR
    refine Qc (by omega) ⟨_,rfl,?_⟩
    exact yQ v rp (by omega) (by omega) (by omega) fun h' cR G' uK wR x'=>⟨rfl,hR h' cR G' uK wR x'⟩
   ·rw [ef,if_neg (by omega)]at hR
    exact hR h bR G sp rp (iV.refl h bR)
  ·unfold Rn
   rw [ef,if_neg (by omega)]at hR
   exact cj rfl (hR h bR G sp rp (iV.refl h bR))
theorem LP(v:s.Inv)(rp:dP h hb bR (s.dM sp) G) {R:RP}
  (hR:∀h' cR G' uK,dP h' hb cR (s.collect.dM uK) G'→iV h bR h' cR→R (vt #[]) h'):bq PG 32 #[vp (sa hb)] h R:=by
 refine ack ?_
 unfold aok
 exact te v rp fun h1 tT G1 TY ng x1=>⟨rfl,Jo v.ci ng (k:=0) (by omega) fun h2 A5 G2 sp2 wK x2=>⟨rfl,hR h2 A5 G2 sp2 wK (x1.trans x2)⟩⟩
theorem Oq(v:s.Inv)(rp:dP h hb bR (s.dM sp) G) {n:Int} {R:RP}
  (hR:∀h' cR G' uK,dP h' hb cR ((s.lG n).1.dM uK) G'→iV h bR h' cR→R (vi (s.lG n).2) h'):bq PG 42 #[vp (sa hb),vi n] h R:=by
 have i4:=v.l2
 refine acf ?_
 unfold aoi
 have yR:n<64∨n>524288→Mh (sa hb) n true h R:=fun fV=>by
  unfold Mh
  have e:s.lG n=(s,36):=by unfold RS.lG;rw [if_pos fV]
  rw [e]at hR
  exact cr rfl (hR h bR G sp rp (iV.refl h bR))
 refine ca (fun h1=>yR (.inl h1)) fun h1=>?_
 by_cases h2:n>524288
 ·rw [decide_eq_true h2];exact yR (.inr h2)
 rw [decide_eq_false h2]
 unfold Mh
 refine cj rfl (te v rp fun h1 tT G1 TY ng x1=>⟨rfl,?_⟩)
 have v1:=v.ci
 have c1:cell h1 ((ad hb).add 1)=some (vp (sa G1.Lh.pb)):=(ng.c 1).trans rfl
 have c0:cell h1 (ad hb)=some (vi (s.cM:Nat)):=ng.c0
 have c6:cell h1 ((ad hb).add 6)=some (vi (s.ci.dI:Nat)):=(ng.c 6).trans rfl
 obtain⟨wch,fch,fsh,ra⟩:=ng.dJ
 have hu:=RS.oz v1 TY
 have e0:s.lG n=if s.ci.cZ>n∨2*n+s.ci.dI>s.cM then(s.ci,31)else(s.ci.eY n.toNat,0):=by unfold RS.lG;rw [if_neg (by omega)]
 have i3:=v1.h2
 have i6:s.ci.cM=s.cM:=rfl
 refine bw ⟨_,c1,_,nC ra ⟨rfl,rfl⟩,?_⟩
 rw [hu]
 refine ca (fun hc=>?_) fun hc=>bw ⟨_,c6,bw ⟨_,c0,?_⟩⟩
 ·rw [e0,if_pos (.inl (by omega))]at hR
  exact hR h1 tT G1 TY ng x1
 ·rw [d9 (x:=(2:Int)*n) (by omega) (by omega),d9 (by omega) (by omega)]
  refine ca (fun hd=>?_) fun hd=>?_
  ·rw [e0,if_pos (.inr (by omega))]at hR
   exact hR h1 tT G1 TY ng x1
  ·rw [e0,if_neg (by omega)]at hR
   obtain⟨k,rfl⟩:=dp (show 0≤n by omega)
   exact yQ v1 ng (by omega) (by omega) (by omega) fun h2 A5 G2 sp2 wK x2=>⟨rfl,hR h2 A5 G2 sp2 wK (x1.trans x2)⟩
end
namespace RS
section
variable {s:RS}
theorem B8(s:RS)(k:Nat):s.ident (qO+k)=s.cK.getD k 0:=by
 unfold ident
 rw [if_pos (qC qO k),fm]
theorem np(s:RS):s.ident 0=0:=by
 unfold ident
 rw [if_neg (by show ¬9223372036854775808≤0;omega),if_pos rfl]
theorem HR {r:Nat}(h0:r≠0)(h:r<qO):s.ident r=(s.dG.find? fun i=>(s.dS i).pl==r).getD 0:=by
 unfold ident
 rw [if_neg (by omega),if_neg h0]
theorem agR(v:s.Inv){a b:Nat}(ha:a∈s.dG)(hb:b∈s.dG)(h:(s.dS a).pl=(s.dS b).pl):a=b:=by
 obtain⟨i,hi,hp⟩:=v.qQ ha
 obtain⟨j,hj,hq⟩:=v.qQ hb
 rw [hp,hq]at h
 have e1:pos (s.dG.map s.enc) i=1+s.fG (s.dG.take i):=yD (fun id=>s.kT id) _ _
 have e2:pos (s.dG.map s.enc) j=1+s.fG (s.dG.take j):=yD (fun id=>s.kT id) _ _
 have zc:i=j:=aaM (os:=s.dG.map s.enc) (by rw [bA];exact(bp.1 hi).1) (by rw [bA];exact(bp.1 hj).1) (by rw [e1,e2,h])
 subst zc
 rw [hi]at hj
 exact bt hj
theorem C1(v:s.Inv){id:Nat}(h:id∈s.dG):s.ident (s.dS id).pl=id:=by
 have hp:=Vy v (.inl h)
 obtain⟨j,hj,hq⟩:=v.qQ h
 rw [HR (by omega) (by show _<9223372036854775808;omega)]
 cases hf:s.dG.find? fun i=>(s.dS i).pl==(s.dS id).pl with
 |none =>
  have:=mu.1 hf id h
  simp at this
 |some x =>
  have h1:=ox hf
  have h2:=ip hf
  exact agR v h2 h (by simpa using h1)
theorem Ol(v:s.Inv){id:Nat}(h0:id≠0)(h:id∈s.cK):s.cK[(s.dS id).pl]?=some id∧s.ident (qO+(s.dS id).pl)=id:=by
 obtain⟨i,hi⟩:=bT.1 h
 have za:(s.dS id).pl=i:=(v.sl i id hi h0).2.2.2
 rw [za]
 exact⟨hi,by rw [B8,bB,hi];rfl⟩
theorem jy(v:s.Inv){id:Nat}(h:id=0∨s.da id):s.ident (s.fk id)=id:=by
 by_cases h0:id=0
 ·subst h0;rw [iQ,np]
 ·rcases v.At (h.resolve_left h0)with⟨hb,hs,_⟩|⟨hb,hs⟩
  ·rw [yA h0 hb];exact(Ol v h0 hs).2
  ·rw [oQ h0 hb];exact C1 v hs
theorem oE(v:s.Inv){r:Nat}(h:s.ident r≠0):s.da (s.ident r)∧s.fk (s.ident r)=r:=by
 rcases eS r qO with hl|hg
 ·by_cases h0:r=0
  ·subst h0;exact absurd s.np h
  ·rw [HR h0 hl]at h ⊢
   cases hf:s.dG.find? fun i=>(s.dS i).pl==r with
   |none=>rw [hf]at h;exact absurd rfl h
   |some x =>
    have h1:=ox hf
    have h2:=ip hf
    obtain⟨q0,_,q1,_⟩:=v.sm x h2
    exact⟨.inl h2,by show s.fk x=r;rw [oQ (by omega) q1];simpa using h1⟩
 ·obtain⟨k,rfl⟩:=oX hg
  rw [B8,bB]at h ⊢
  cases hx:s.cK[k]? with
  |none=>rw [hx]at h;exact absurd rfl h
  |some x =>
   rw [hx]at h
   have h:x≠0:=h
   obtain⟨_,q1,_,q2⟩:=v.sl k x hx h
   exact⟨.inr ⟨h,bx hx⟩,by show s.fk x=_;rw [yA h q1,q2]⟩
theorem E8(v:s.Inv)(r:Nat):s.ident r=0∨s.da (s.ident r):=by
 by_cases h:s.ident r=0
 ·exact .inl h
 ·exact .inr (oE v h).1
def setObj(s:RS)(id:Nat)(o:nW):RS:={s with eB:=s.eB.set id o}
theorem vN(s:RS){id:Nat}(o:nW)(h:id<s.eB.length)(x:Nat):(s.setObj id o).dS x=if x=id then o else s.dS x:=by
 unfold setObj dS
 simp only
 rw [bB,bB]
 by_cases hx:x=id
 ·subst hx;rw [cE h,if_pos rfl];rfl
 ·rw [dl (Ne.symm hx),if_neg hx]
structure ma (a b:nW):Prop where
 kind:b.kind=a.kind
 cY:b.cY.length=a.cY.length
 cN:b.cN.length=a.cN.length
 Au:b.Au=a.Au
 pl:b.pl=a.pl
section
variable {id:Nat} {o:nW}
theorem vL(h:id<s.eB.length)(e:ma (s.dS id) o) (x:Nat):ma (s.dS x) ((s.setObj id o).dS x):=by
 rw [vN s o h]
 by_cases hx:x=id
 ·subst hx;rw [if_pos rfl];exact e
 ·rw [if_neg hx];exact⟨rfl,rfl,rfl,rfl,rfl⟩
theorem vM(h:id<s.eB.length)(e:ma (s.dS id) o) (x:Nat):(s.setObj id o).fk x=s.fk x:=by
 have q:=vL h e x
 unfold fk
 rw [q.Au,q.pl]
theorem CH(h:id<s.eB.length)(e:ma (s.dS id) o) (x:Nat):(s.setObj id o).size x=s.size x:=by
 have q:=vL h e x
 unfold size nW.size
 rw [q.cY,q.cN]
theorem zO(h:id<s.eB.length)(e:ma (s.dS id) o) (x:Nat):(s.setObj id o).enc x=if x=id then⟨o.kind,o.cY.map s.fk,o.cN,none⟩else s.enc x:=by
 have hr:((s.setObj id o).dS x).cY.map (s.setObj id o).fk=((s.setObj id o).dS x).cY.map s.fk:=cD fun y _=>vM h e y
 unfold enc
 rw [hr,vN s o h]
 by_cases hx:x=id
 ·rw [if_pos hx,if_pos hx]
 ·rw [if_neg hx,if_neg hx]
theorem Inv.setObj(v:s.Inv)(h:s.da id)(e:ma (s.dS id) o) (hr:∀r∈o.cY,r=0∨s.da r) (hw:∀x∈o.cN,x<18446744073709551616):(s.setObj id o).Inv:=by
 have hl:=v.kz h
 have Uh:=CH (o:=o) hl e
 have esh:=vL (o:=o) hl e
 have eo:=vN s o hl
 refine⟨v.l1,v.l2,v.h1,v.h2,?_,v.u2,?_,v.Sp,v.rl,v.VP,?_,?_,?_,v.rt,?_,by show 1≤(s.eB.set id o).length;rw [cd];exact v.ob,v.kp,v.sn⟩
 ·show s.cZ=1+(s.setObj id o).fG s.dG
  rw [oN fun x _=>Uh x];exact v.u1
 ·show s.dI=(s.cK.map _).sum
  rw [v.lg]
  congr 1
  exact cD fun x _=>by rw [Uh]
 ·intro x hx
  show 0<x∧x<(s.eB.set id o).length∧_∧_∧_=(s.setObj id o).gq s.dG 1 x
  rw [cd,(esh x).Au,Uh,(esh x).pl,lH _ _ _ fun y _=>Uh y]
  exact v.sm x hx
 ·intro i x hi h0
  show x<(s.eB.set id o).length∧_
  rw [cd,(esh x).Au,Uh,(esh x).pl]
  exact v.sl i x hi h0
 ·intro x hx r Uc
  rw [eo]at Uc
  by_cases hxi:x=id
  ·rw [if_pos hxi]at Uc;exact hr r Uc
  ·rw [if_neg hxi]at Uc;exact v.rf x hx r Uc
 ·intro x hx
  obtain⟨h1,h2,h3,h4,h5⟩:=v.NK x hx
  rw [(esh x).kind,(esh x).cY,(esh x).cN]
  refine⟨h1,h2,h3,h4,fun y hy=>?_⟩
  rw [eo]at hy
  by_cases hxi:x=id
  ·rw [if_pos hxi]at hy;exact hw y hy
  ·rw [if_neg hxi]at hy;exact h5 y hy
end
end
end RS
section
variable {h h':Hp} {hb:Nat} {bR:Nat→io} {G:xd} {s:RS} {sp:List dg} {id:Nat} {L:jt} {sz:Nat} {os:List dg} {i:Nat}
def Plc(s:RS)(G:xd)(id:Nat)(L:jt)(sz:Nat)(os:List dg)(i:Nat):Prop :=
 (L=G.Lh∧sz=s.dJ∧os=s.dG.map s.enc∧s.dG[i]?=some id)∨(id≠0∧G.jW[(s.dS id).pl]?=some (some L)∧sz=s.size id+1∧os=[s.enc id]∧i=0∧s.cK[(s.dS id).pl]?=some id)
theorem Plc.get(p:Plc s G id L sz os i):os[i]?=some (s.enc id):=by
 rcases p with⟨_,_,rfl,h⟩|⟨_,_,_,rfl,rfl,_⟩
 ·rw [bD,h];rfl
 ·rfl
theorem Plc.ar(p:Plc s G id L sz os i)(rp:dP h hb bR (s.dM sp) G):Ar h L sz os:=by
 rcases p with⟨rfl,rfl,rfl,_⟩|⟨h0,hL,rfl,rfl,rfl,hs⟩
 ·exact rp.dJ
 ·have hm:(s.dM sp).blocks[(s.dS id).pl]?=some (some (s.enc id)):=by
   show (s.cK.map _)[(s.dS id).pl]?=_
   rw [bD,hs];simp [h0]
  have:=(rp.bl _ _ _ hm hL).1
  rwa [s.kT]at this
theorem Plc.apart(p:Plc s G id L sz os i)(rp:dP h hb bR (s.dM sp) G) {b:Nat} (hb:bR b=.out):¬L.fp b:=by
 rcases p with⟨rfl,rfl,rfl,_⟩|⟨h0,hL,rfl,rfl,rfl,hs⟩
 ·intro hf;have:=rp.nu b hf;rw [hb]at this;cases this
 ·have hm:(s.dM sp).blocks[(s.dS id).pl]?=some (some (s.enc id)):=by
   show (s.cK.map _)[(s.dS id).pl]?=_
   rw [bD,hs];simp [h0]
  intro hf
  have:=(rp.bl _ _ _ hm hL).2 b hf
  rw [hb]at this;cases this
theorem Plc.put(p:Plc s G id L sz os i)(v:s.Inv)(rp:dP h hb bR (s.dM sp) G) {o:nW} (hh:s.da id) (e:RS.ma (s.dS id) o) (ha:Ar h' L sz (os.modify i fun _=>(s.setObj id o).enc id)) (k:bY L.fp h h') :
  ∃cR G',dP h' hb cR ((s.setObj id o).dM sp) G'∧iV h bR h' cR:=by
 have hl:=v.kz hh
 have GY:=RS.zO (o:=o) hl e
 have ert:∀x,(s.setObj id o).hZ x=s.hZ x:=fun x=>by
  cases x with
  |none=>rfl
  |some y=>show (true,_)=(true,_);rw [RS.vM hl e]
 have er:s.bC.map (s.setObj id o).hZ=s.bC.map s.hZ:=cD fun x _=>ert x
 rcases p with⟨rfl,rfl,rfl,hi⟩|⟨h0,hL,rfl,rfl,rfl,hs⟩
 ·have g:Grown h G.Lh G.Lh h':=⟨rfl,fun _=>.inl,k⟩
  have hs:id∈s.dG:=bx hi
  have r1:=rp.Qx ha g
  refine⟨nR bR h.size G.Lh.fp .dJ,G,?_,iV.of (bR:=bR) k (fun b hb=>by rw [rp.nu b hb];nofun) fun b hb ho=>(gh hb).trans ho⟩
  have em:({s.dM sp with dJ:=(s.dG.map s.enc).modify i fun _=>(s.setObj id o).enc id}:MH)=(s.setObj id o).dM sp:=by
   unfold RS.dM
   simp only [MH.mk.injEq]
   refine⟨rfl,rfl,?_,rfl,trivial,?_,rfl,trivial,rfl,rfl,rfl,er.symm,rfl,rfl,rfl,rfl⟩
   ·apply cG
    intro j
    rw [dQ,bD]
    show _=(s.dG.map (s.setObj id o).enc)[j]?
    rw [bD]
    cases hj:s.dG[j]? with
    |none=>rfl
    |some x =>
     show some (if i=j then _ else _)=some _
     by_cases zc:i=j
     ·subst zc
      rw [hi]at hj
      obtain rfl:=bt hj
      rw [if_pos rfl]
     ·have iS:x≠id:=fun e=>by
       subst e
       exact zc ((jV (bp.1 hi).1 v.VP).1 (hi.trans hj.symm))
      rw [if_neg zc,GY,if_neg iS]
   ·show _=s.cK.map _
    refine cD fun x hx=>?_
    by_cases tF:x=0
    ·rw [if_pos tF,if_pos tF]
    ·obtain⟨j,hj⟩:=bT.1 hx
     rw [if_neg tF,if_neg tF,GY,if_neg (RS.wl v hs hj tF)]
  rw [em]at r1
  exact r1
 ·have hm:(s.dM sp).blocks[(s.dS id).pl]?=some (some (s.enc id)):=by
   show (s.cK.map _)[(s.dS id).pl]?=_
   rw [bD,hs];simp [h0]
  have vF:((s.setObj id o).enc id).size=(s.enc id).size:=by rw [RS.kT,RS.kT];exact RS.CH hl e id
  have ha:Ar h' L ((s.enc id).size+1) [(s.setObj id o).enc id]:=by rw [s.kT];exact ha
  have r1:=rp.Qw hm hL vF ha k
  refine⟨bR,G,?_,iV.of (bR:=bR) k (fun b hb=>by rw [(rp.bl _ _ _ hm hL).2 b hb];nofun) fun _ _ ho=>ho⟩
  have em:({s.dM sp with blocks:=(s.dM sp).blocks.set (s.dS id).pl (some ((s.setObj id o).enc id))}:MH)=(s.setObj id o).dM sp:=by
   unfold RS.dM
   simp only [MH.mk.injEq]
   have hb:(s.dS id).Au=true:=(v.sl _ id hs h0).2.1
   refine⟨rfl,rfl,?_,rfl,trivial,?_,rfl,trivial,rfl,rfl,rfl,er.symm,rfl,rfl,rfl,rfl⟩
   ·show _=s.dG.map _
    refine cD fun x hx=>?_
    rw [GY,if_neg fun e=>by
     subst e
     have:=(v.sm x hx).2.2.1
     rw [hb]at this;cases this]
   ·apply cG
    intro j
    show _=(s.cK.map _)[j]?
    rw [bD]
    by_cases hj:j=(s.dS id).pl
    ·subst hj
     rw [cE (by rw [bA];exact(bp.1 hs).1),hs]
     simp [h0]
    ·rw [dl (Ne.symm hj),bD]
     cases hx:s.cK[j]? with
     |none=>rfl
     |some x =>
      show some _=some _
      congr 1
      show (if x=0 then none else some (s.enc x))=(if x=0 then none else some ((s.setObj id o).enc x))
      by_cases tF:x=0
      ·rw [if_pos tF,if_pos tF]
      ·rw [if_neg tF,if_neg tF,GY,if_neg fun e=>by
        subst e
        exact hj (v.sl j x hx h0).2.2.2.symm]
  rw [em]at r1
  exact r1
theorem yN(v:s.Inv)(rp:dP h hb bR (s.dM sp) G) {r:Nat} (hr:r<18446744073709551616) {R:RP} (h0:s.ident r=0→R (vt #[.nilIface,vi 0,vb false]) h)
  (h1:∀L sz os i,s.ident r≠0→Plc s G (s.ident r) L sz os i→R (vt #[.iface 144 (vp (sa L.pb)),vi (pos os i:Nat),vb true]) h):bq PG 122 #[vp (sa hb),uv r] h R:=by
 have ht:qO=9223372036854775808:=rfl
 have i5:=v.Sp
 refine Ys ?_
 unfold afk
 rcases eS r qO with hl|hg
 ·have hl:r<9223372036854775808:=hl
  refine cj (by rw [DJ hl];rfl) ?_
  by_cases hz:r=0
  ·subst hz
   refine cr rfl ?_
   unfold FA
   exact cr rfl (h0 s.np)
  refine cj (by simp;omega) ?_
  have c1:cell h ((ad hb).add 1)=some (vp (sa G.Lh.pb)):=(rp.c 1).trans rfl
  obtain⟨wc,fc,fs,ra⟩:=rp.dJ
  have hu:=RS.oz v sp
  have i2:=v.u2;have i3:=v.h2;have i4:=v.l2
  refine bw ⟨_,c1,nC ra ⟨_,rfl,?_⟩⟩
  rw [hu,eN (x:=(s.cZ:Int)) (by omega) (by omega)]
  have QQ:zB (s.dM sp).dJ r=none→s.ident r=0:=fun hn=>by
   by_cases hi:s.ident r=0
   ·exact hi
   ·exfalso
    obtain⟨q1,q2⟩:=RS.oE v hi
    rcases v.At q1 with⟨fV,_,iS⟩|⟨fV,hs⟩
    ·rw [RS.yA iS fV]at q2;omega
    ·obtain⟨j,hj,hp⟩:=v.qQ hs
     rw [RS.oQ hi fV]at q2
     have e1:pos (s.dG.map s.enc) j=1+s.fG (s.dG.take j):=RS.yD (fun id=>s.kT id) _ _
     have:zB (s.dG.map s.enc) r=some j:=jL.2 ⟨by rw [bA];exact(bp.1 hj).1,by rw [e1];omega⟩
     have hn:zB (s.dG.map s.enc) r=none:=hn
     rw [hn]at this;cases this
  by_cases o5:s.cZ≤r
  ·rw [show decide ((r:Int)≥(s.cZ:Int))=true from decide_eq_true (by omega)]
   unfold FA
   exact cr rfl (h0 (QQ (xJ (by rw [hu];exact o5))))
  ·rw [show decide ((r:Int)≥(s.cZ:Int))=false from decide_eq_false (by omega)]
   unfold FA
   rw [bU (x:=(r:Int)) (by omega) (by omega)]
   refine cj rfl (bw ⟨_,c1,qz ra ?_⟩)
   cases hi:zB (s.dM sp).dJ r with
   |none =>
    have:xF (s.dM sp).dJ (r:Int)=vt #[vi 0,vi 0,vi 0,vi 23]:=by
     unfold xF;rw [iD,hi];rfl
    rw [this]
    exact⟨_,_,_,_,rfl,cr rfl (h0 (QQ hi))⟩
   |some j =>
    obtain⟨q1,q2⟩:=jL.1 hi
    have q1:j<s.dG.length:=by have:j<(s.dG.map s.enc).length:=q1;rwa [bA]at this
    obtain⟨x,hx⟩:∃x,s.dG[j]?=some x:=⟨_,br q1⟩
    have hxs:=bx hx
    have us:(s.dM sp).dJ[j]?=some (s.enc x):=by show (s.dG.map s.enc)[j]?=_;rw [bD,hx];rfl
    have:xF (s.dM sp).dJ (r:Int)=vt #[vi ((s.enc x).kind:Int),vi ((s.enc x).cY.length:Int),vi ((s.enc x).cN.length:Int),vi 0]:=by
     unfold xF;rw [iD,hi];simp only [dX,us];rfl
    rw [this]
    refine⟨_,_,_,_,rfl,cj rfl (bw ⟨_,c1,?_⟩)⟩
    have e1:pos (s.dG.map s.enc) j=1+s.fG (s.dG.take j):=RS.yD (fun id=>s.kT id) _ _
    have za:(s.dS x).pl=r:=by
     have q2:pos (s.dG.map s.enc) j=r:=q2
     rw [(v.sm x hxs).2.2.2.2,RS.zS _ _ _ _ v.VP hx,←e1,q2]
    have iA:s.ident r=x:=by rw [←za];exact RS.C1 v hxs
    have tF:x≠0:=by have:=(v.sm x hxs).1;omega
    have:=h1 G.Lh s.dJ (s.dG.map s.enc) j (by rw [iA];exact tF) (.inl ⟨rfl,rfl,rfl,by rw [iA];exact hx⟩)
    have q2:pos (s.dG.map s.enc) j=r:=q2
    rw [q2]at this
    exact this
 ·obtain⟨k,rfl⟩:=oX hg
  rw [RS.B8]at h0 h1
  have hk:k<9223372036854775808:=by omega
  have hn:jr .u64 ((qO+k:Nat):Int) (9223372036854775808:Int)=(k:Int):=by rw [aox (by omega) (by omega)];omega
  refine cr (by rw [Bk (by omega) hr];rfl) ?_
  rw [hn]
  have c3:cell h ((ad hb).add 3)=some (.slice G.bs.a G.bs.n G.bs.c):=(rp.c 3).trans rfl
  have F4:=rp.M7
  have F4:G.bs.n=(s.cK.map fun id=>if id=0 then none else some (s.enc id)).length:=F4
  rw [bA]at F4
  refine bw ⟨G.bs,c3,?_⟩
  rw [eN (x:=(G.bs.n:Int)) (by omega) (by omega)]
  refine ca (fun o5=>?_) fun fE=>?_
  ·unfold FB
   exact cr rfl (h0 (by rw [bB,bV (by omega)];rfl))
  ·have zb:k<s.cK.length:=by omega
   obtain⟨x,hx⟩:∃x,s.cK[k]?=some x:=⟨_,br zb⟩
   have hgd:s.cK.getD k 0=x:=by rw [bB,hx];rfl
   rw [hgd]at h0 h1
   have cb:(0:Int)≤(k:Int)∧(k:Int)<(G.bs.n:Int):=by omega
   have AJ:=rp.ll
   have AJ:G.jW.length=(s.cK.map fun id=>if id=0 then none else some (s.enc id)).length:=AJ
   rw [bA]at AJ
   have hL:G.jW[k]?=some G.jW[k]:=br (by omega)
   obtain⟨bb,LR,Np⟩:=rp.AV hL
   have hm:(s.dM sp).blocks[k]?=some (if x=0 then none else some (s.enc x)):=by
    show (s.cK.map _)[k]?=_
    rw [bD,hx];rfl
   have zd:=rp.bl k _ _ hm hL
   generalize hLk:G.jW[k]=Lk at hL Np zd
   by_cases tF:x=0
   ·subst tF
    rw [if_pos rfl]at zd
    cases Lk with
    |some L=>exact zd.elim
    |none =>
     refine bw ⟨G.bs,c3,cb,cW LR ⟨none,by rw [bu];exact Np,?_⟩⟩
     unfold FB
     exact cr rfl (h0 rfl)
   ·rw [if_neg tF]at zd
    cases Lk with
    |none=>exact zd.elim
    |some L =>
     refine bw ⟨G.bs,c3,cb,cW LR ⟨some (ad L.pb),by rw [bu];exact Np,?_⟩⟩
     unfold FB
     refine cj rfl (bw ⟨G.bs,c3,cb,cW LR ⟨some (ad L.pb),by rw [bu];exact Np,?_⟩⟩)
     have za:(s.dS x).pl=k:=(v.sl k x hx tF).2.2.2
     exact h1 L (s.size x+1) [s.enc x] 0 tF (.inr ⟨tF,by rw [za];exact hL,rfl,rfl,rfl,by rw [za];exact hx⟩)
end
section
variable {h h':Hp} {hb:Nat} {bR:Nat→io} {m:MH} {G:xd}
theorem dP.app(r:dP h hb bR m G){x:io}(hx1:x≠.hd)(hx2:x≠.out){e sz ze:Nat}{z:Array Value}{s:Sl}{ob:Option Nat}{vs:LV}(sl:kM sz h s.a s.n s.c ob vs)(sr:∀b,ob=some b→bR b=x)
  {arr:Array Value} {t:TypeId} (hz:z.size=sz) (hl:arr.toList.length=1*sz) (kY:∀v∈arr.toList,mj v=true) (HZ:(2*(s.n+1)+768)*ze≤2 ^ 48) (fE:s.n+1<2 ^ 62) {no:Nat} (wX:no<19) {K:Hp→Prop}
  (hK:∀h' cR a' c' ut,eM h' hb ((kB m G).set no (.slice a' (s.n+1) c'))→afR h' hb cR m G x→kM sz h' a' (s.n+1) c' (some ut) (vs++arr.toList)→cR ut=x→pS h bR h' cR→bY (fun b=>bR b=x∨b=hb) h h'→K h') :
  gi (h.push (.cells arr t)) fun h2=>im e sz ze z s.a s.n s.c (some (nb h)) 1 h2 fun ra rn rc h3=>bE (sa hb) fun p=>Go.Ev.St h3 (p.add no) (.slice ra rn rc) fun h4=>K h4:=by
 refine dh fun h2 e2=>?_
 have k2:bY N h h2:=e2▸cF _ _ _
 have r2:=r.eG k2 fun _ e=>e.elim
 have mi:eM h2 h.size arr.toList:=e2▸du h arr t
 have hz2:h2.size=h.size+1:=by rw [e2];simp
 have sl2:kM sz h2 s.a s.n s.c ob vs:=ir sl k2 fun _ _ e=>e
 refine⟨arr.toList,lQ mi (fun j v hj=>by rw [fo];exact hj),hl,?_⟩
 refine yp sl2 hz hl kY HZ fE fun a' c' jK h3 s3 vj=>bw ?_
 have LI:=r2.fE
 have key:∀ut,jK=some ut→(bR ut=x∨h2.size≤ut)→bY (fun b=>bR b=x) h2 h3→Go.Ev.St h3 ((ad hb).add no) (.slice a' (s.n+1) c') fun h4=>K h4:=by
  rintro ut rfl LM k3
  have e5:(ad hb).add no=⟨hb,no,none⟩:=cm _ _
  rw [e5]
  have LD:eM h3 hb (kB m G):=bF k3 r2.row fun e=>by rw [r2.rh]at e;exact hx1 e.symm
  refine⟨jH LD wX,dh fun h4 e4=>?_⟩
  have k4:bY (fun b=>b=hb) h3 h4:=e4▸gf h3 no _ rfl
  have Dm:bY (fun b=>bR b=x∨b=hb) h2 h4:=⟨bP k3.1 k4.1,fun b WJ hn=>(k4.2 b (bZ WJ k3.1) (fun e=>hn (.inr e))).trans (k3.2 b WJ fun e=>hn (.inl e))⟩
  have hgl:ut<h4.size:=bZ s3.lt k4.1
  have p:=r2.part (x:=x) Dm (fun b e=>e.elim .inl fun e=>.inr (.inl (e▸r2.rh))) (cR:=nR bR h2.size (fun b=>b=ut) x) (fun b hb=>gh hb) fun b hb=>qp (r2.fresh b (bP Dm.1 hb)) fun e=>by omega
  have hg4:nR bR h2.size (fun b=>b=ut) x ut=x:=by
   rcases eS ut h2.size with hl|hl
   ·rw [gh hl];exact LM.resolve_right (by omega)
   ·exact qq hl rfl
  have iS:ut≠hb:=fun e=>by
   rcases LM with h|h
   ·rw [e,r2.rh]at h;exact hx1 h.symm
   ·omega
  have Wr:eM h4 hb ((kB m G).set no (.slice a' (s.n+1) c')):=by rw [e4];exact hG LD no _
  refine hK h4 _ a' c' ut Wr p (mJ s3 k4 iS) hg4 ?_ ((k2.mono fun _ _ e=>e.elim).trans Dm)
  refine⟨bP k2.1 Dm.1,fun b WJ=>gh (by omega),fun b WJ ho=>?_⟩
  rw [Dm.2 b (by omega) fun e=>e.elim (fun e=>by rw [ho]at e;exact hx2 e.symm) fun e=>by rw [e,r2.rh]at ho;cases ho]
  exact k2.2 b WJ id
 rcases vj with⟨rfl,k3⟩|⟨rfl,k3⟩
 ·cases LM:jK with
  |none =>
   rw [LM]at s3
   exact absurd (s3.nil rfl).2.1 (by omega)
  |some ut =>
   refine key ut LM (.inl (sr ut LM)) (k3.mono fun b _ e=>?_)
   rw [LM]at e
   obtain rfl:=bt e
   exact sr _ LM
 ·exact key h2.size rfl (.inr (bH _)) (k3.mono fun _ _ e=>e.elim)
def reR(bR:Nat→io)(P:Nat→Prop)[DecidablePred P] (x:io) (b:Nat):io:=if P b then x else bR b
theorem agD {P:Nat→Prop}[DecidablePred P] {x:io} {b:Nat} (h:P b):reR bR P x b=x:=if_pos h
theorem IR {P:Nat→Prop}[DecidablePred P] {x:io} {b:Nat} (h:¬P b):reR bR P x b=bR b:=if_neg h
theorem dP.N0(r:dP h hb bR m G){P:Nat→Prop}[DecidablePred P] (x:io) (hP:∀b,P b→bR b=.out∧b<h.size):dP h hb (reR bR P x) m G:=by
 have tr:∀b y,bR b=y→y≠.out→reR bR P x b=y:=fun b y e hy=>(IR fun hp=>hy (e▸(hP b hp).1)).trans e
 exact⟨r.row,tr _ _ r.rh nofun,fun b hb=>(IR fun hp=>by have:=(hP b hp).2;omega).trans (r.fresh b hb),r.dJ,fun b hb=>tr _ _ (r.nu b hb) nofun,r.dC,fun b hb=>tr _ _ (r.lN b hb) nofun,
  r.bs,fun b hb=>tr _ _ (r.Ig b hb) nofun,r.ll,fun i o L h1 h2=>by
   have x0:=r.bl i o L h1 h2
   cases o<;>cases L<;>first|exact x0|exact⟨x0.1,fun b hb=>tr _ _ (x0.2 b hb) nofun⟩,
  r.rs,fun b hb=>tr _ _ (r.Hx b hb) nofun,r.gs,fun b hb=>tr _ _ (r.Jl b hb) nofun,r.ts,fun b hb=>tr _ _ (r.Ki b hb) nofun⟩
theorem iV.N0 {h0:Hp}{adD:Nat→io}(x:iV h0 adD h bR){P:Nat→Prop}[DecidablePred P] (y:io) (hP:∀b,P b→h0.size≤b):iV h0 adD h (reR bR P y) :=
 ⟨x.1,fun b hb ho=>⟨(IR fun hp=>by have:=hP b hp;omega).trans (x.2 b hb ho).1,(x.2 b hb ho).2⟩⟩
theorem dP.aaJ(r:dP h hb bR m G){i:Nat}{o:dg}{L:jt}(hi:i<m.blocks.length)(ha:Ar h L (o.size+1) [o]) (hr:∀b,L.fp b→bR b=.Dg i) :
  ∃b,G.bs.a=some (ad b)∧Go.Ev.gZ h ((ad b).add (i*1))∧dP (fy h ((ad b).add (i*1)) (vp (sa L.pb))) hb bR {m with blocks:=m.blocks.set i (some o)} {G with jW:=G.jW.set i (some L)}∧pS h bR (fy h ((ad b).add (i*1)) (vp (sa L.pb))) bR:=by
 have hl:=r.bs.len
 have AJ:=r.ll
 rw [bA]at hl
 obtain⟨b,xb,LR⟩:=sQ r.bs (by omega)
 have bs:=r.bs
 rw [xb]at bs
 obtain⟨h1,h2⟩:=bs.set (o:=i) (by rw [bA];omega) (vp (sa L.pb))
 refine⟨b,LR,?_⟩
 rw [cm,cQ]
 have k:bY (fun x=>x=b) h (fy h ⟨b,i,none⟩ (vp (sa L.pb))):=gf h i _ rfl
 have hbb:=r.Ig b xb
 have p:=r.part (x:=.bb) k (fun x e=>.inl (e▸hbb)) (cR:=bR) (fun _ _=>rfl) fun b hb=>r.fresh b (bP k.1 hb)
 refine⟨h1,⟨bF k r.row (fun e=>by have:=r.rh;rw [e,hbb]at this;cases this),p.rh,p.fresh,(p.dJ nofun).1,(p.dJ nofun).2,(p.dC nofun).1,(p.dC nofun).2,?_,r.Ig,by simp [AJ],fun j o' L' h1 h2=>?_,(p.rs nofun).1,(p.rs nofun).2,
  (p.gs nofun).1,(p.gs nofun).2,(p.ts nofun).1,(p.ts nofun).2⟩,pS.of (bR:=bR) k (fun x e=>by rw [e,hbb];nofun) fun _ _=>rfl⟩
 ·rw [xb]
  show kM 1 _ _ _ _ _ ((G.jW.set i (some L)).map N5)
  rw [ig]
  exact h2
 ·have h1:(m.blocks.set i (some o))[j]?=some o':=h1
  have h2:(G.jW.set i (some L))[j]?=some L':=h2
  by_cases hj:j=i
  ·subst hj
   rw [cE hi]at h1
   rw [cE (by omega)]at h2
   obtain rfl:=bt h1
   obtain rfl:=bt h2
   exact⟨ha.eG k fun b' hf e=>(by have:=hr b' hf;rw [e,hbb]at this;cases this),hr⟩
  ·rw [dl (Ne.symm hj)]at h1 h2
   exact p.bl j o' L' nofun h1 h2
theorem dP.acS(r:dP h hb bR m G){o:dg}{L:jt}{e:Nat}{t:TypeId}(ha:Ar h L (o.size+1) [o]) (hr:∀b,L.fp b→bR b=.Dg m.blocks.length) (hn:m.blocks.length≤2000000) {K:Hp→Prop}
  (hK:∀h' cR G',dP h' hb cR {m with blocks:=m.blocks++[some o]} G'→pS h bR h' cR→K h') :
  gi (h.push (.cells #[vp (sa L.pb)] t)) fun h2=>im e 1 8 #[vp none] G.bs.a G.bs.n G.bs.c (some (nb h)) 1 h2 fun ra rn rc h3=>bE (sa hb) fun p=>Go.Ev.St h3 (p.add 3) (.slice ra rn rc) fun h4=>K h4:=by
 have F4:=r.M7
 have AJ:=r.ll
 refine r.app (x:=.bb) nofun nofun (s:=G.bs) r.bs r.Ig rfl rfl (fun v hv=>by obtain rfl:=bM.1 hv;rfl) (by omega) (by omega) (by omega) fun h' cR a' c' ut oZ p sl hg x kk=>?_
 have hL:∀b,L.fp b→cR b=.Dg m.blocks.length:=fun b fV=>(x.2.1 b (ha.lt b fV)).trans (hr b fV)
 have haL:Ar h' L (o.size+1) [o]:=ha.eG kk fun b fV e=>by
  rcases e with e|e
  ·rw [hr b fV]at e;cases e
  ·have:=hr b fV;rw [e,r.rh]at this;cases this
 refine hK h' cR {G with bs:=⟨a',G.bs.n+1,c'⟩,bb:=some ut,jW:=G.jW++[some L]} ⟨oZ,p.rh,p.fresh,(p.dJ nofun).1,(p.dJ nofun).2,(p.dC nofun).1,(p.dC nofun).2,?_,fun b e=>by obtain rfl:=bt e;exact hg,by simp [AJ],fun j o' L' h1 h2=>?_,
   (p.rs nofun).1,(p.rs nofun).2,(p.gs nofun).1,(p.gs nofun).2,(p.ts nofun).1,(p.ts nofun).2⟩ x
 ·show kM 1 h' a' (G.bs.n+1) c' (some ut) ((G.jW++[some L]).map N5)
  rw [cx]
  exact sl
 ·have h1:(m.blocks++[some o])[j]?=some o':=h1
  have h2:(G.jW++[some L])[j]?=some L':=h2
  rcases mW j m.blocks.length with hj|hj|hj
  ·rw [bL hj]at h1
   rw [bL (by omega)]at h2
   exact p.bl j o' L' nofun h1 h2
  ·subst hj
   rw [bN (bH _),dD]at h1
   rw [bN (by omega),AJ,dD]at h2
   obtain rfl:=bt h1
   obtain rfl:=bt h2
   exact⟨haL,hL⟩
  ·rw [bV (by simp;omega)]at h1;cases h1
theorem dP.Zr(r:dP h hb bR m G){e:Nat}{t:TypeId}(hn:m.dL.length≤2000000){K:Hp→Prop}(hK:∀h' cR G',dP h' hb cR {m with dL:=m.dL++[false]} G'→G'.bs=G.bs→pS h bR h' cR→K h') :
  gi (h.push (.cells #[vb false] t)) fun h2=>im e 1 1 #[vb false] G.rs.a G.rs.n G.rs.c (some (nb h)) 1 h2 fun ra rn rc h3=>bE (sa hb) fun p=>Go.Ev.St h3 (p.add 4) (.slice ra rn rc) fun h4=>K h4:=by
 have hrn:=r.agz
 refine r.app (x:=.rb) nofun nofun (s:=G.rs) r.rs r.Hx rfl rfl (fun v hv=>by obtain rfl:=bM.1 hv;rfl) (by omega) (by omega) (by omega) fun h' cR a' c' ut oZ p sl hg x kk=>?_
 refine hK h' cR {G with rs:=⟨a',G.rs.n+1,c'⟩,rb:=some ut} ⟨oZ,p.rh,p.fresh,(p.dJ nofun).1,(p.dJ nofun).2,(p.dC nofun).1,(p.dC nofun).2,(p.bs nofun).1,(p.bs nofun).2,p.ll,fun i o L h1 h2=>p.bl i o L nofun h1 h2,?_,fun b e=>by obtain rfl:=bt e;exact hg,
  (p.gs nofun).1,(p.gs nofun).2,(p.ts nofun).1,(p.ts nofun).2⟩ rfl x
 show kM 1 h' a' (G.rs.n+1) c' (some ut) ((m.dL++[false]).map Value.bool)
 rw [cx]
 exact sl
theorem dP.acT(r:dP h hb bR m G){e:Nat}{t:TypeId}{fk:Nat}(hn:m.bC.length≤100000000){K:Hp→Prop}(hK:∀h' cR G',dP h' hb cR {m with bC:=m.bC++[(true,fk)]} G'→pS h bR h' cR→K h') :
  gi (h.push (.cells #[vb true,uv fk] t)) fun h2=>im e 2 16 #[vb false,vu 0] G.ts.a G.ts.n G.ts.c (some (nb h)) 1 h2 fun ra rn rc h3=>bE (sa hb) fun p=>Go.Ev.St h3 (p.add 9) (.slice ra rn rc) fun h4=>K h4:=by
 have htn:=r.NB
 refine r.app (x:=.tb) nofun nofun (s:=G.ts) r.ts r.Ki rfl rfl (fun v hv=>?_) (by omega) (by omega) (by omega) fun h' cR a' c' ut oZ p sl hg x kk=>?_
 ·have hv:v∈[Value.bool true,uv fk]:=hv
  rcases ck.1 hv with rfl|hv
  ·rfl
  ·obtain rfl:=bM.1 hv;rfl
 refine hK h' cR {G with ts:=⟨a',G.ts.n+1,c'⟩,tb:=some ut} ⟨oZ,p.rh,p.fresh,(p.dJ nofun).1,(p.dJ nofun).2,(p.dC nofun).1,(p.dC nofun).2,(p.bs nofun).1,(p.bs nofun).2,p.ll,fun i o L h1 h2=>p.bl i o L nofun h1 h2,(p.rs nofun).1,(p.rs nofun).2,
  (p.gs nofun).1,(p.gs nofun).2,?_,fun b e=>by obtain rfl:=bt e;exact hg⟩ x
 show kM 2 h' a' (G.ts.n+1) c' (some ut) ((m.bC++[(true,fk)]).flatMap pf)
 rw [gW]
 exact sl
end
namespace RS
def uW(s:RS)(r:Nat):(Nat × Nat × Nat) × Int:=if s.ident r=0 then((0,0,0),32)else(((s.dS (s.ident r)).kind,(s.dS (s.ident r)).cY.length,(s.dS (s.ident r)).cN.length),0)
def Cd(s:RS)(r:Nat)(i:Int):Nat × Int :=
 if s.ident r=0 then(0,32)else if 0≤i∧i<((s.enc (s.ident r)).fA.length:Nat)then((s.enc (s.ident r)).fA.getD i.toNat 0,0)else(0,33)
def iI(s:RS)(r:Nat)(i:Int)(x:Nat):RS × Int :=
 if s.ident r=0 then(s,32)
 else if ¬(0≤i∧i<(((s.dS (s.ident r)).cY.length+(s.dS (s.ident r)).cN.length:Nat):Int))then(s,33)
 else if i<((s.dS (s.ident r)).cY.length:Nat)then
  (if x≠0∧s.ident x=0 then(s,32)else(s.setObj (s.ident r) {s.dS (s.ident r)with cY:=(s.dS (s.ident r)).cY.set i.toNat (s.ident x)},0))
 else(s.setObj (s.ident r) {s.dS (s.ident r)with cN:=(s.dS (s.ident r)).cN.set (i.toNat-(s.dS (s.ident r)).cY.length) x},0)
def o8(s:RS)(r:Nat)(f n:Int):Prop:=s.ident r≠0∧0≤f∧0≤n∧f+n≤8*(((s.dS (s.ident r)).cN.length:Nat):Int)
instance (s:RS) (r:Nat) (f n:Int):Decidable (s.o8 r f n):=inferInstanceAs (Decidable (_∧_∧_∧_))
def oe(s:RS)(r:Nat)(f n:Int):Int:=if s.ident r=0 then 32 else if s.o8 r f n then 0 else 33
def jS(s:RS)(r:Nat)(f:Int)(cs:LN):RS × Int :=
 if s.o8 r f cs.length then(s.setObj (s.ident r) {s.dS (s.ident r)with cN:=fO (s.dS (s.ident r)).cN f.toNat cs},0)else(s,s.oe r f cs.length)
def pW(s:RS)(r:Nat):Bool:=decide (r=0∨s.ident r≠0)
def xT(s:RS)(n:Int):Option Nat:=if 1≤n∧n≤(s.bC.length:Nat)then s.bC.getD (n-1).toNat none else none
def atF(s:RS)(n:Int):Nat × Int:=match s.xT n with|some id=>(s.fk id,0)|none=>(0,35)
def jw(s:RS)(l:List (Option Nat)):RS:={s with bC:=l}
def yc(s:RS)(n:Int):RS × Int:=match s.xT n with|none=>(s,35)|some _=>(s.jw (s.bC.set (n-1).toNat none),0)
def dV:List (Option Nat)→Nat
 | []=>0
 |none::_=>0
 |some _::l=>dV l+1
theorem Cg:∀(l:List (Option Nat)) (i:Nat),(∀j,j<i→∃x,l[j]?=some (some x))→(l[i]?=some none∨i=l.length)→dV l=i
 | [],i,h,e=>by
  rcases e with e|e
  ·simp at e
  ·rw [e];rfl
 |none::l,0,_,_=>rfl
 |none::l,i+1,h,_=>by obtain⟨x,hx⟩:=h 0 (by omega);simp at hx
 |some y::l,0,_,e=>by
  rcases e with e|e
  ·simp at e
  ·simp at e
 |some y::l,i+1,h,e=>by
  show dV l+1=i+1
  rw [Cg l i (fun j hj=>by have:=h (j+1) (by omega);simpa using this) (by simpa using e)]
theorem vm:∀l:List (Option Nat),dV l≤l.length
 | []=>bH _
 |none::l=>cP _
 |some _::l=>Nat.succ_le_succ (vm l)
theorem FI:∀(l:List (Option Nat)) (i x:Nat),l[i]?=some none→((l.set i (some x)).filter Option.isSome).length=(l.filter Option.isSome).length+1
 | [],i,x,h=>by simp at h
 |y::l,0,x,h=>by
  obtain rfl:y=none:=by simpa using h
  simp
 |y::l,i+1,x,h=>by
  have:=FI l i x (by simpa using h)
  rw [fg]
  cases y<;>simp [this]
theorem FJ:∀(l:List (Option Nat)) (i x:Nat),l[i]?=some (some x)→((l.set i none).filter Option.isSome).length+1=(l.filter Option.isSome).length
 | [],i,x,h=>by simp at h
 |y::l,0,x,h=>by
  obtain rfl:y=some x:=by simpa using h
  simp
 |y::l,i+1,x,h=>by
  have:=FJ l i x (by simpa using h)
  rw [fg]
  cases y<;>simp<;>omega
def uR(s:RS)(r:Nat):RS × Nat × Int :=
 if s.pW r=true then
  (s.jw (if dV s.bC<s.bC.length then s.bC.set (dV s.bC) (some (s.ident r))else s.bC++[some (s.ident r)]),dV s.bC+1,0)
 else(s,0,32)
section
variable {s:RS}
theorem we(id:Nat):(s.enc id).fA.length=(s.dS id).cY.length+(s.dS id).cN.length:=by unfold dg.fA enc;simp
theorem Inv.jw(v:s.Inv){l:List (Option Nat)} (h1:∀id,some id∈l→id=0∨s.da id) (h2:l.length≤100000000):(s.jw l).Inv :=
 ⟨v.l1,v.l2,v.h1,v.h2,v.u1,v.u2,v.lg,v.Sp,h2,v.VP,fun id iA=>by
  obtain⟨a,b,c,d,e⟩:=v.sm id iA
  exact⟨a,b,c,d,e.trans (lH (s:=s.jw l) (t:=s) _ _ _ fun _ _=>rfl)⟩,v.sl,v.rf,h1,v.NK,v.ob,v.kp,v.sn⟩
theorem H2(v:s.Inv){r:Nat}(h:s.pW r=true):s.fk (s.ident r)=r:=by
 have h:r=0∨s.ident r≠0:=by simpa [pW]using h
 rcases h with rfl|h
 ·rw [np,iQ]
 ·exact(oE v h).2
theorem Inv.set(v:s.Inv)(r:Nat)(i:Int){x:Nat}(hx:x<18446744073709551616):(s.iI r i x).1.Inv:=by
 unfold iI
 split
 ·exact v
 ·rename_i h0
  have hh:=(oE v h0).1
  obtain⟨_,_,_,_,hw⟩:=v.NK _ hh
  split
  ·exact v
  ·split
   ·split
    ·exact v
    ·refine v.setObj hh ⟨rfl,by simp,rfl,rfl,rfl⟩ (fun y hy=>?_) hw
     rcases dB hy with hy|hy
     ·exact v.rf _ hh y hy
     ·rw [hy];exact E8 v x
   ·refine v.setObj hh ⟨rfl,rfl,by simp,rfl,rfl⟩ (v.rf _ hh) fun y hy=>?_
    rcases dB hy with hy|hy
    ·exact hw y hy
    ·rw [hy];exact hx
theorem Inv.U5(v:s.Inv)(r:Nat)(f:Int){cs:LN}(hc:∀c∈cs,c<256):(s.jS r f cs).1.Inv:=by
 unfold jS
 split
 ·rename_i h
  have hh:=(oE v h.1).1
  obtain⟨_,_,_,_,hw⟩:=v.NK _ hh
  exact v.setObj hh ⟨rfl,rfl,ly _ _ _,rfl,rfl⟩ (v.rf _ hh) (tX hw hc)
 ·exact v
theorem H0 {n:Int}{id:Nat}(h:s.xT n=some id):1≤n∧n≤(s.bC.length:Nat)∧s.bC[(n-1).toNat]?=some (some id):=by
 unfold xT at h
 split at h
 ·rename_i hn
  refine⟨hn.1,hn.2,?_⟩
  rw [bB]at h
  cases hx:s.bC[(n-1).toNat]? with
  |none=>rw [hx]at h;cases h
  |some x=>rw [hx]at h;exact congrArg some h
 ·cases h
theorem A3(v:s.Inv){k:Nat}{x:Option Nat}(hx:∀id,x=some id→id=0∨s.da id):∀id,some id∈s.bC.set k x→id=0∨s.da id:=fun id iA=>by
 rcases dB iA with h|h
 ·exact v.rt id h
 ·exact hx id h.symm
theorem Inv.drop(v:s.Inv)(n:Int):(s.yc n).1.Inv:=by
 unfold yc
 split
 ·exact v
 ·exact v.jw (A3 v fun id e=>by cases e) (by rw [cd];exact v.rl)
theorem Inv.root(v:s.Inv){r:Nat}(hl:s.bC.length<100000000):(s.uR r).1.Inv:=by
 unfold uR
 split
 ·refine v.jw ?_ ?_
  ·split
   ·exact A3 v fun id e=>by obtain rfl:=bt e;exact E8 v r
   ·intro id iA
    rcases bI.1 iA with h|h
    ·exact v.rt id h
    ·have:=bM.1 h
     obtain rfl:=bt this
     exact E8 v r
  ·split
   ·rw [cd];exact v.rl
   ·rw [bG];show s.bC.length+1≤_;omega
 ·exact v
end
end RS
theorem QP {os:List dg}{i:Nat}{o:dg}(h:os[i]?=some o)(hf:o.rQ=none):xF os (pos os i:Int)=vt #[vi (o.kind:Int),vi (o.cY.length:Int),vi (o.cN.length:Int),vi 0]:=by
 unfold xF
 rw [iD,lA (bp.1 h).1]
 simp only [dX,h,hf]
section
variable {h:Hp} {hb:Nat} {bR:Nat→io} {G:xd} {s:RS} {sp:List dg}
theorem qr(v:s.Inv)(rp:dP h hb bR (s.dM sp) G) {r:Nat} (hr:r<18446744073709551616) {R:RP}
  (hR:R (vt #[vi ((s.uW r).1.1:Nat),vi ((s.uW r).1.2.1:Nat),vi ((s.uW r).1.2.2:Nat),vi (s.uW r).2]) h):bq PG 89 #[vp (sa hb),uv r] h R:=by
 refine abN ?_
 unfold anN
 refine yN v rp hr (fun h0=>?_) fun L sz os i h0 p=>?_
 ·unfold RS.uW at hR
  rw [if_pos h0]at hR
  exact⟨_,_,_,rfl,cr rfl hR⟩
 ·obtain⟨wc,fc,fs,ra⟩:=p.ar rp
  refine⟨_,_,_,rfl,cj rfl ⟨_,rfl,qz ra ?_⟩⟩
  rw [QP p.get rfl]
  unfold RS.uW at hR
  rw [if_neg h0]at hR
  have e:(s.enc (s.ident r)).cY.length=(s.dS (s.ident r)).cY.length:=bA ..
  rw [e]
  exact⟨_,_,_,_,rfl,hR⟩
theorem DH(v:s.Inv)(rp:dP h hb bR (s.dM sp) G) {r:Nat} (hr:r<18446744073709551616) {i:Int} {R:RP}
  (hR:R (vt #[uv (s.Cd r i).1,vi (s.Cd r i).2]) h):bq PG 72 #[vp (sa hb),uv r,vi i] h R:=by
 refine abT ?_
 unfold anS
 refine yN v rp hr (fun h0=>?_) fun L sz os j h0 p=>?_
 ·unfold RS.Cd at hR
  rw [if_pos h0]at hR
  exact⟨_,_,_,rfl,cr rfl hR⟩
 ·obtain⟨wc,fc,fs,ra⟩:=p.ar rp
  refine⟨_,_,_,rfl,cj rfl ⟨_,rfl,R7 ra ?_⟩⟩
  unfold RS.Cd at hR
  rw [if_neg h0]at hR
  have hg:OE os (pos os j:Int) i=if 0≤i∧i<((s.enc (s.ident r)).fA.length:Nat)then vt #[uv ((s.enc (s.ident r)).fA.getD i.toNat 0),vi 0]else vt #[vu 0,vi 24]:=by
   have us:=p.get
   unfold OE
   rw [iD,lA (bp.1 us).1]
   simp only [dX,us]
   show (if 0≤i then(match(s.enc (s.ident r)).fA[i.toNat]? with|some v=>Value.tuple #[uv v,vi 0] |none=>Value.tuple #[vu 0,vi 24])else Value.tuple #[vu 0,vi 24])=_
   by_cases h1:0≤i
   ·rw [if_pos h1]
    by_cases h2:i<((s.enc (s.ident r)).fA.length:Nat)
    ·rw [if_pos ⟨h1,h2⟩,bB,br (by omega)];rfl
    ·rw [if_neg (fun c=>h2 c.2),bV (by omega)]
   ·rw [if_neg h1,if_neg (fun c=>h1 c.1)]
  rw [hg]
  split
  ·rename_i hc
   rw [if_pos hc]at hR
   exact⟨_,_,rfl,cj rfl hR⟩
  ·rename_i hc
   rw [if_neg hc]at hR
   exact⟨_,_,rfl,cr rfl hR⟩
theorem LL(v:s.Inv)(rp:dP h hb bR (s.dM sp) G) {r:Nat} (hr:r<18446744073709551616) {R:RP} (hR:R (vb (s.pW r)) h):bq PG 138 #[vp (sa hb),uv r] h R:=by
 refine Yo ?_
 unfold afh
 unfold RS.pW at hR
 by_cases hz:r=0
 ·subst hz
  rw [decide_eq_true (.inl rfl)]at hR
  exact cr rfl hR
 refine cj (by simp;omega) (yN v rp hr (fun h0=>?_) fun L sz os j h0 p=>?_)
 ·rw [decide_eq_false (by simp [hz,h0])]at hR
  exact⟨_,_,_,rfl,hR⟩
 ·rw [decide_eq_true (.inr h0)]at hR
  exact⟨_,_,_,rfl,hR⟩
theorem abd(v:s.Inv)(rp:dP h hb bR (s.dM sp) G) {r:Nat} (hr:r<18446744073709551616) {i:Int} {x:Nat} (hx:x<18446744073709551616) {R:RP}
  (hR:∀h' cR G',dP h' hb cR ((s.iI r i x).1.dM sp) G'→iV h bR h' cR→R (vi (s.iI r i x).2) h'):bq PG 92 #[vp (sa hb),uv r,vi i,uv x] h R:=by
 refine abK ?_
 unfold anJ
 refine yN v rp hr (fun h0=>?_) fun L sz os j h0 p=>?_
 ·have e:s.iI r i x=(s,32):=by unfold RS.iI;rw [if_pos h0]
  rw [e]at hR
  exact⟨_,_,_,rfl,cr rfl (hR h bR G rp (iV.refl h bR))⟩
 ·obtain⟨wc,fc,fs,ra⟩:=p.ar rp
  have hh:=(RS.oE v h0).1
  obtain⟨_,_,hnr,hnw,_⟩:=v.NK _ hh
  have us:=p.get
  have efl:=s.we (s.ident r)
  refine⟨_,_,_,rfl,cj rfl ⟨_,rfl,qz ra ?_⟩⟩
  rw [QP us rfl]
  have er:(s.enc (s.ident r)).cY.length=(s.dS (s.ident r)).cY.length:=bA ..
  have ew:(s.enc (s.ident r)).cN.length=(s.dS (s.ident r)).cN.length:=rfl
  rw [er,ew]
  refine⟨_,_,_,_,rfl,?_⟩
  have yR:¬(0≤i∧i<(((s.dS (s.ident r)).cY.length+(s.dS (s.ident r)).cN.length:Nat):Int))→R (vi 33) h:=fun fV=>by
   have e:s.iI r i x=(s,33):=by unfold RS.iI;rw [if_neg h0,if_pos fV]
   rw [e]at hR
   exact hR h bR G rp (iV.refl h bR)
  refine ca (fun c=>?_) fun c=>?_
  ·unfold Mb
   exact cr rfl (yR fun q=>by omega)
  rw [d9 (x:=(((s.dS (s.ident r)).cY.length:Nat):Int)+(((s.dS (s.ident r)).cN.length:Nat):Int)) (by omega) (by omega)]
  by_cases c2:i≥(((s.dS (s.ident r)).cY.length:Nat):Int)+(((s.dS (s.ident r)).cN.length:Nat):Int)
  ·rw [decide_eq_true c2]
   unfold Mb
   exact cr rfl (yR fun q=>by omega)
  rw [decide_eq_false c2]
  unfold Mb
  refine cj rfl ?_
  obtain⟨k,rfl⟩:=dp (show 0≤i by omega)
  have zb:k<(s.enc (s.ident r)).fA.length:=by omega
  have hE:GB os (pos os j:Int) (k:Int)=0:=by
   unfold GB
   rw [iD,lA (bp.1 us).1]
   simp only [dX,us]
   show (if 0≤(k:Int)∧(k:Int)<((s.enc (s.ident r)).fA.length:Int)then(0:Int)else 24)=0
   rw [if_pos (by omega)]
  have nA:∀o,RS.ma (s.dS (s.ident r)) o→(s.enc (s.ident r)).iI k x=⟨o.kind,o.cY.map s.fk,o.cN,none⟩→s.iI r (k:Int) x=(s.setObj (s.ident r) o,0) →
    bq PG 262 #[vp (sa L.pb),vi (pos os j:Int),vi (k:Int),uv x] h fun v h'=>∃t55:Int,v=vi t55∧R (vi t55) h':=by
   intro o he ho hs
   refine R4 ra hx (fun iS=>absurd hE iS) fun i' o' k' h' q1 q2 q3 q4 q5 q6 q7=>?_
   obtain rfl:k=k':=by omega
   have ha:Ar h' L sz (os.modify j fun _=>(s.setObj (s.ident r) o).enc (s.ident r)):=by
    have iZ:=(bp.1 us).1
    rw [iD,lA iZ]at q1
    obtain rfl:=bt q1
    rw [←sk (f:=fun o=>o.iI k x) us (by rw [RS.zO (v.kz hh) he,if_pos rfl,ho])]
    exact⟨_,_,_,q6⟩
   obtain⟨cR,G',wR,x'⟩:=p.put v rp hh he ha q7
   rw [hs]at hR
   exact⟨_,rfl,hR h' cR G' wR x'⟩
  have e0:s.iI r (k:Int) x=if(k:Int)<((s.dS (s.ident r)).cY.length:Nat)then
    (if x≠0∧s.ident x=0 then(s,32)else(s.setObj (s.ident r) {s.dS (s.ident r)with cY:=(s.dS (s.ident r)).cY.set k (s.ident x)},0))
    else(s.setObj (s.ident r) {s.dS (s.ident r)with cN:=(s.dS (s.ident r)).cN.set (k-(s.dS (s.ident r)).cY.length) x},0):=by
   unfold RS.iI
   rw [if_neg h0,if_neg (by omega)]
   rfl
  refine ca (fun c3=>?_) fun c3=>?_
  ·refine LL v rp hx ⟨_,rfl,?_⟩
   have hkr:k<(s.dS (s.ident r)).cY.length:=by omega
   by_cases hg:s.pW x=true
   ·rw [hg]
    have hg':x=0∨s.ident x≠0:=by simpa [RS.pW]using hg
    refine cj rfl ⟨_,rfl,nA {s.dS (s.ident r)with cY:=(s.dS (s.ident r)).cY.set k (s.ident x)} ⟨rfl,by simp,rfl,rfl,rfl⟩ ?_ ?_⟩
    ·unfold dg.iI
     rw [if_pos (by rw [er];exact hkr)]
     show (⟨_,((s.dS (s.ident r)).cY.map s.fk).set k x,_,_⟩:dg)=⟨_,((s.dS (s.ident r)).cY.set k (s.ident x)).map s.fk,_,_⟩
     rw [ig,RS.H2 v hg]
     rfl
    ·rw [e0,if_pos (by omega),if_neg (fun c=>by exact hg'.elim c.1 fun h=>h c.2)]
   ·have hg1:s.pW x=false:=by simpa using hg
    have hg':¬(x=0∨s.ident x≠0):=by simpa [RS.pW]using hg
    rw [hg1]
    rw [e0,if_pos (by omega),if_pos ⟨fun c=>hg' (.inl c),by
     by_cases hq:s.ident x=0
     ·exact hq
     ·exact absurd (.inr hq) hg'⟩]at hR
    exact cr rfl (hR h bR G rp (iV.refl h bR))
  ·have hkr:¬k<(s.dS (s.ident r)).cY.length:=by omega
   refine⟨_,rfl,nA {s.dS (s.ident r)with cN:=(s.dS (s.ident r)).cN.set (k-(s.dS (s.ident r)).cY.length) x} ⟨rfl,rfl,by simp,rfl,rfl⟩ ?_ ?_⟩
   ·unfold dg.iI
    rw [if_neg (by rw [er];exact hkr)]
    rw [er]
    rfl
   ·rw [e0,if_neg (by omega)]
theorem Th(v:s.Inv)(rp:dP h hb bR (s.dM sp) G) {r:Nat} (hr:r<18446744073709551616) {f n:Int} (DG:-9223372036854775808≤n) (Tf:-9223372036854775808≤f) (Q5:n<9223372036854775808) (Te:f<9223372036854775808) {R:RP}
  (jz:¬s.o8 r f n→R (vt #[.slice none 0 0,vi (s.oe r f n)]) h)
  (mD:∀b h',s.o8 r f n→eM h' b ((List.range n.toNat).map fun j=>bv (kZ (s.dS (s.ident r)).cN (f.toNat+j)))→h.size≤b→bY N h h'→R (vt #[.slice (sa b) n.toNat n.toNat,vi 0]) h') :
  bq PG 223 #[vp (sa hb),uv r,vi f,vi n] h R:=by
 refine XA ?_
 unfold aeB
 refine yN v rp hr (fun h0=>?_) fun L sz os j h0 p=>?_
 ·have hs:¬s.o8 r f n:=fun c=>c.1 h0
  have:=jz hs
  unfold RS.oe at this
  rw [if_pos h0]at this
  exact⟨_,_,_,rfl,cr rfl this⟩
 ·obtain⟨wc,fc,fs,ra⟩:=p.ar rp
  have us:=p.get
  have iZ:=(bp.1 us).1
  have S6:Go.Ev.oe os (pos os j:Int) f n=if 0≤f∧0≤n∧f+n≤8*(((s.dS (s.ident r)).cN.length:Nat):Int)then 0 else 25:=by
   unfold Go.Ev.oe
   rw [iD,lA iZ]
   simp only [dX,us]
   rfl
  refine⟨_,_,_,rfl,cj rfl ⟨_,rfl,TS ra DG Tf Q5 Te (fun he=>?_) fun i o f' n' b h' q1 q2 q3 q4 q5 q6 q7 q8 q9=>?_⟩⟩
  ·have hs:¬s.o8 r f n:=fun c=>he (by rw [S6,if_pos c.2])
   have:=jz hs
   unfold RS.oe at this
   rw [if_neg h0,if_neg hs]at this
   exact⟨⟨none,0,0⟩,_,rfl,cr (by simpa using he) this⟩
  ·subst q4 q5
   rw [iD,lA iZ]at q1
   obtain rfl:=bt q1
   rw [us]at q2
   obtain rfl:=bt q2
   have hs:s.o8 r (f':Int) (n':Int):=⟨h0,by omega,by omega,by have:(s.enc (s.ident r)).cN.length=(s.dS (s.ident r)).cN.length:=rfl;omega⟩
   have:=mD b h' hs (by rw [bu,bu];exact q7) q8 q9
   rw [bu]at this
   exact⟨⟨some (ad b),n',n'⟩,_,rfl,cj rfl this⟩
theorem Jb(v:s.Inv)(rp:dP h hb bR (s.dM sp) G) {r:Nat} (hr:r<18446744073709551616) {f:Int} (Tf:-9223372036854775808≤f) (Te:f<9223372036854775808) {a:Sl} {cs:LN} (hs:dZ h a.a (cs.map bv)) (Kl:a.n=cs.length)
  (Km:∀c∈cs,c<256) (hsb:∀p,a.a=some p→cs≠[]→bR p.block=.out) (hn:(cs.length:Int)<9223372036854775808) {R:RP}
  (hR:∀h' cR G',dP h' hb cR ((s.jS r f cs).1.dM sp) G'→iV h bR h' cR→R (vi (s.jS r f cs).2) h'):bq PG 184 #[vp (sa hb),uv r,vi f,.slice a.a a.n a.c] h R:=by
 refine XU ?_
 unfold aeT
 refine yN v rp hr (fun h0=>?_) fun L sz os j h0 p=>?_
 ·have nq:¬s.o8 r f cs.length:=fun c=>c.1 h0
  unfold RS.jS at hR
  rw [if_neg nq]at hR
  unfold RS.oe at hR
  rw [if_pos h0]at hR
  exact⟨_,_,_,rfl,cr rfl (hR h bR G rp (iV.refl h bR))⟩
 ·obtain⟨wc,fc,fs,ra⟩:=p.ar rp
  have us:=p.get
  have iZ:=(bp.1 us).1
  have hh:=(RS.oE v h0).1
  have S6:Go.Ev.oe os (pos os j:Int) f cs.length=if 0≤f∧0≤(cs.length:Int)∧f+(cs.length:Int)≤8*(((s.dS (s.ident r)).cN.length:Nat):Int)then 0 else 25:=by
   unfold Go.Ev.oe
   rw [iD,lA iZ]
   simp only [dX,us]
   rfl
  refine⟨_,_,_,rfl,cj rfl ⟨_,rfl,J6 ra hs Kl Km (fun q hq iS=>p.apart rp (hsb q hq iS)) hn Tf Te (fun he=>?_) fun i o f' h' q1 q2 q3 q4 q5 q6 q7=>?_⟩⟩
  ·have nq:¬s.o8 r f cs.length:=fun c=>he (by rw [S6,if_pos c.2])
   unfold RS.jS at hR
   rw [if_neg nq]at hR
   unfold RS.oe at hR
   rw [if_neg h0,if_neg nq]at hR
   exact⟨_,rfl,cr (by simpa using he) (hR h bR G rp (iV.refl h bR))⟩
  ·subst q4
   rw [iD,lA iZ]at q1
   obtain rfl:=bt q1
   rw [us]at q2
   obtain rfl:=bt q2
   have nq:s.o8 r (f':Int) cs.length:=⟨h0,by omega,by omega,by have:(s.enc (s.ident r)).cN.length=(s.dS (s.ident r)).cN.length:=rfl;omega⟩
   have he:RS.ma (s.dS (s.ident r)) {s.dS (s.ident r)with cN:=fO (s.dS (s.ident r)).cN f' cs}:=⟨rfl,rfl,ly _ _ _,rfl,rfl⟩
   have ha:Ar h' L sz (os.modify j fun _=>(s.setObj (s.ident r) {s.dS (s.ident r)with cN:=fO (s.dS (s.ident r)).cN f' cs}).enc (s.ident r)):=by
    rw [←sk (f:=fun o=>o.gL (fO o.cN f' cs)) us (by rw [RS.zO (v.kz hh) he,if_pos rfl];rfl)]
    exact⟨_,_,_,q6⟩
   obtain⟨cR,G',wR,x'⟩:=p.put v rp hh he ha q7
   unfold RS.jS at hR
   rw [if_pos nq,bu]at hR
   exact⟨_,rfl,cj rfl (hR h' cR G' wR x')⟩
end
theorem eu {h:Hp}{b:Nat}{cs:LV}{i:Nat}{v:Value}(hr:eM h b cs){a:Addr}(ha:a=⟨b,i,none⟩)(hi:i<cs.length){K:Hp→Prop}(hK:∀h',eM h' b (cs.set i v)→bY (fun x=>x=b) h h'→K h') :
  Go.Ev.gZ h a∧gi (fy h a v) fun h'=>K h':=by
 subst ha
 exact⟨jH hr hi,hK _ (hG hr i v) (gf h i v rfl)⟩
namespace RS
def new(n:Nat):RS:={cM:=n,dJ:=64,cZ:=1,dI:=0,gU:=0,gK:=0,eB:=[nW.no],dG:=[],cK:=[],bC:=[],PI:=0,EJ:=0,HL:=0}
theorem aaY {n:Nat}(h1:128≤n)(h2:n≤1048576):(new n).Inv:=by
 refine⟨h1,h2,bH _,?_,rfl,?_,rfl,cP _,cP _,gQ,nofun,?_,?_,nofun,?_,bH _,cP _,cP _⟩
 ·show 2*64+0≤n;omega
 ·show 1≤64;omega
 ·intro i id h;simp [new]at h
 ·rintro id (h|⟨_,h⟩)<;>cases h
 ·rintro id (h|⟨_,h⟩)<;>cases h
theorem OD(s:RS)(n:Int)(h1:1≤n)(h2:n≤(s.bC.length:Nat)):∃x,s.bC[(n-1).toNat]?=some x∧s.xT n=x:=by
 have hl:(n-1).toNat<s.bC.length:=by omega
 refine⟨s.bC[(n-1).toNat],br hl,?_⟩
 unfold xT
 rw [if_pos ⟨h1,h2⟩,bB,br hl]
 rfl
theorem rC(s:RS)(l:List (Option Nat)) (sp:List dg):(s.jw l).dM sp={s.dM sp with bC:=l.map s.hZ,r5:=(l.filter Option.isSome).length}:=by
 unfold dM
 have e1:(s.jw l).hZ=s.hZ:=by funext x;cases x<;>rfl
 rw [e1]
 rfl
end RS
section
variable {h:Hp} {hb:Nat} {bR:Nat→io} {G:xd} {s:RS} {sp:List dg}
theorem LK(v:s.Inv)(rp:dP h hb bR (s.dM sp) G) {n:Int} {R:RP} (hR:R (vb (s.xT n).isSome) h):bq PG 135 #[vp (sa hb),vi n] h R:=by
 have HU:=v.rl
 refine Yr ?_
 unfold afj
 have hn:=rp.NB
 have hn:G.ts.n=(s.bC.map s.hZ).length:=hn
 rw [bA]at hn
 have c9:cell h ((ad hb).add 9)=some (.slice G.ts.a G.ts.n G.ts.c):=(rp.c 9).trans rfl
 refine ca (fun h1=>?_) fun h1=>?_
 ·refine bw ⟨G.ts,c9,ca (fun h2=>?_) fun h2=>?_⟩
  ·obtain⟨x,hx,hh⟩:=s.OD n (by omega) (by omega)
   have T9:(s.dM sp).bC[(n-1).toNat]?=some (s.hZ x):=by show (s.bC.map s.hZ)[(n-1).toNat]?=_;rw [bD,hx];rfl
   obtain⟨b,ha,k1,k2,k3,_⟩:=rp.Dy T9
   rw [d9 (x:=n-1) (by omega) (by omega)]
   refine bw ⟨G.ts,c9,⟨by omega,by omega⟩,cW ha ⟨(s.hZ x).1,k1,?_⟩⟩
   rw [hh]at hR
   cases x<;>exact hR
  ·have:s.xT n=none:=by unfold RS.xT;rw [if_neg (by omega)]
   rw [this]at hR
   exact hR
 ·have:s.xT n=none:=by unfold RS.xT;rw [if_neg (by omega)]
  rw [this]at hR
  exact hR
theorem ah6(v:s.Inv)(rp:dP h hb bR (s.dM sp) G) {n:Int} {R:RP} (hR:R (vt #[uv (s.atF n).1,vi (s.atF n).2]) h):bq PG 91 #[vp (sa hb),vi n] h R:=by
 have HU:=v.rl
 refine abL ?_
 unfold anK
 refine LK v rp ⟨_,rfl,?_⟩
 unfold RS.atF at hR
 cases hh:s.xT n with
 |none=>rw [hh]at hR;exact cr rfl hR
 |some id =>
  rw [hh]at hR
  obtain⟨h1,h2,hx⟩:=RS.H0 hh
  have c9:cell h ((ad hb).add 9)=some (.slice G.ts.a G.ts.n G.ts.c):=(rp.c 9).trans rfl
  have T9:(s.dM sp).bC[(n-1).toNat]?=some (s.hZ (some id)):=by show (s.bC.map s.hZ)[(n-1).toNat]?=_;rw [bD,hx];rfl
  obtain⟨b,ha,k1,k2,k3,_⟩:=rp.Dy T9
  rw [d9 (x:=n-1) (by omega) (by omega)]
  exact cj rfl (bw ⟨G.ts,c9,⟨by omega,by omega⟩,cW ha ⟨_,k2,hR⟩⟩)
theorem Q8(v:s.Inv)(rp:dP h hb bR (s.dM sp) G) {n:Int} {R:RP}
  (hR:∀h' cR G',dP h' hb cR ((s.yc n).1.dM sp) G'→iV h bR h' cR→R (vi (s.yc n).2) h'):W6 (sa hb) n h R:=by
 have HU:=v.rl
 unfold W6
 refine LK v rp ⟨_,rfl,?_⟩
 unfold RS.yc at hR
 cases hh:s.xT n with
 |none=>rw [hh]at hR;exact cr rfl (hR h bR G rp (iV.refl h bR))
 |some id =>
  rw [hh]at hR
  obtain⟨h1,h2,hx⟩:=RS.H0 hh
  have fE:=(bp.1 hx).1
  have c9:cell h ((ad hb).add 9)=some (.slice G.ts.a G.ts.n G.ts.c):=(rp.c 9).trans rfl
  have T9:(s.dM sp).bC[(n-1).toNat]?=some (s.hZ (some id)):=by show (s.bC.map s.hZ)[(n-1).toNat]?=_;rw [bD,hx];rfl
  have htn:=rp.NB
  have htn:G.ts.n=(s.bC.map s.hZ).length:=htn
  rw [bA]at htn
  rw [d9 (x:=n-1) (by omega) (by omega)]
  obtain⟨b,ha,st,ng,x1⟩:=rp.Qv T9 false
  refine cj rfl (bw ⟨G.ts,c9,⟨by omega,by omega⟩,cW ha ⟨st,dh fun h2 e2=>?_⟩⟩)
  rw [←e2]at ng x1
  have ahu:((s.dM sp).bC.set (n-1).toNat (false,(s.hZ (some id)).2))[(n-1).toNat]?=some (false,(s.hZ (some id)).2):=cE (by show _<(s.bC.map s.hZ).length;rw [bA];exact fE)
  obtain⟨b',AK,st2,wK,x2⟩:=ng.IM ahu 0
  rw [ha]at AK
  obtain rfl:b=b':=by simpa [ad]using AK
  refine⟨st2,dh fun h3 e3=>?_⟩
  have wK:dP h3 hb bR _ G:=e3▸wK
  have x2:pS h2 bR h3 bR:=e3▸x2
  have c15:cell h3 (((ad hb).add 10).add 5)=some (vi ((s.bC.filter Option.isSome).length:Nat)):=by rw [nD];exact(bS wK.row 15).trans rfl
  refine bw ⟨_,c15,bw ?_⟩
  have Q9:=RS.FJ _ _ _ hx
  have uc:(s.bC.filter Option.isSome).length≤s.bC.length:=dT _ _
  rw [d9 (x:=(((s.bC.filter Option.isSome).length:Nat):Int)-1) (by omega) (by omega)]
  have ev:(((s.bC.filter Option.isSome).length:Nat):Int)-1=(((s.bC.set (n-1).toNat none).filter Option.isSome).length:Nat):=by omega
  rw [ev]
  refine wK.num (i:=15) (m':={s.dM sp with bC:=((s.dM sp).bC.set (n-1).toNat (false,(s.hZ (some id)).2)).set (n-1).toNat (false,0),r5:=((s.bC.set (n-1).toNat none).filter Option.isSome).length}) (nD _ _ _) (by omega) rfl rfl rfl rfl rfl rfl rfl rfl rfl fun h4 Vh x4=>?_
  refine hR h4 bR G ?_ ((x1.trans x2).trans x4).o
  show dP _ hb bR ((s.jw _).dM sp) G
  rw [RS.rC,ig]
  rw [pJ]at Vh
  exact Vh
theorem WD(v:s.Inv)(rp:dP h hb bR (s.dM sp) G) {n:Int} {R:RP}
  (hR:∀h' cR G',dP h' hb cR ((s.yc n).1.dM sp) G'→iV h bR h' cR→R (vi (s.yc n).2) h'):bq PG 84 #[vp (sa hb),vi n] h R:=abR (Q8 v rp hR)
theorem Ws(v:s.Inv)(rp:dP h hb bR (s.dM sp) G) (hl:s.bC.length<100000000) {r:Nat} (hr:r<18446744073709551616) {R:RP}
  (hR:∀h' cR G',dP h' hb cR ((s.uR r).1.dM sp) G'→iV h bR h' cR→R (vt #[vi ((s.uR r).2.1:Nat),vi (s.uR r).2.2]) h'):bq PG 90 #[vp (sa hb),uv r] h R:=by
 refine abM ?_
 unfold anL
 refine LL v rp hr ⟨_,rfl,?_⟩
 unfold RS.uR at hR
 cases hg:s.pW r with
 |false=>rw [hg]at hR;exact cr rfl (hR h bR G rp (iV.refl h bR))
 |true =>
  rw [hg]at hR
  refine cj rfl ?_
  have c15:cell h (((ad hb).add 10).add 5)=some (vi ((s.bC.filter Option.isSome).length:Nat)):=by rw [nD];exact(bS rp.row 15).trans rfl
  have uc:(s.bC.filter Option.isSome).length≤s.bC.length:=dT _ _
  refine bw ⟨_,c15,bw ?_⟩
  rw [d9 (x:=(((s.bC.filter Option.isSome).length:Nat):Int)+1) (by omega) (by omega)]
  have ev:(((s.bC.filter Option.isSome).length:Nat):Int)+1=((s.bC.filter Option.isSome).length+1:Nat):=by omega
  rw [ev]
  refine rp.num (i:=15) (m':={s.dM sp with r5:=(s.bC.filter Option.isSome).length+1}) (nD _ _ _) (by omega) rfl rfl rfl rfl rfl rfl rfl rfl rfl fun h2 wK x2=>?_
  have htn:=wK.NB
  have htn:G.ts.n=(s.bC.map s.hZ).length:=htn
  rw [bA]at htn
  have c9:cell h2 ((ad hb).add 9)=some (.slice G.ts.a G.ts.n G.ts.c):=(wK.c 9).trans rfl
  refine bw ⟨G.ts,c9,?_⟩
  rw [htn]
  have erw:s.hZ (some (s.ident r))=(true,r):=by show (true,s.fk (s.ident r))=(true,r);rw [RS.H2 v hg]
  refine OO (fun q s0 s1 Ve Vd h'=>∃i:Nat,i≤s.bC.length∧q=s.bC.length-i∧s0=some (ad hb)∧s1=(r:Int)∧Ve=(s.bC.length:Int)∧Vd=(i:Int)∧h'=h2∧∀j,j<i→∃x,s.bC[j]?=some (some x)) s.bC.length
   ⟨0,cP _,rfl,rfl,rfl,rfl,rfl,rfl,fun j hj=>absurd hj (Nat.not_lt_zero _)⟩ ?_
  rintro q s0 s1 Ve Vd g h' ⟨i,hi,rfl,rfl,rfl,rfl,rfl,rfl,Fk⟩
  unfold W3
  refine ca (fun fE=>?_) fun o5=>?_
  ·have fE:i<s.bC.length:=by omega
   obtain⟨x,hx⟩:∃x,s.bC[i]?=some x:=⟨_,br fE⟩
   have T9:({s.dM sp with r5:=(s.bC.filter Option.isSome).length+1}:MH).bC[i]?=some (s.hZ x):=by show (s.bC.map s.hZ)[i]?=_;rw [bD,hx];rfl
   obtain⟨b,ha,k1,k2,k3,_⟩:=wK.Dy T9
   have cb:(0:Int)≤(i:Int)∧(i:Int)<(G.ts.n:Int):=by omega
   have ZK:wrap .i64 ((i:Int)+1)=((i+1:Nat):Int):=by rw [d9 (by omega) (by omega)];rfl
   refine bw ⟨G.ts,c9,cb,cW ha ⟨(s.hZ x).1,by rw [bu];exact k1,?_⟩⟩
   cases x with
   |some y =>
    refine cj rfl ?_
    refine⟨s.bC.length-(i+1),by omega,i+1,fE,rfl,rfl,rfl,rfl,ZK,rfl,fun j hj=>?_⟩
    rcases eS j i with HY|HY
    ·exact Fk j HY
    ·obtain rfl:j=i:=by omega
     exact⟨y,hx⟩
   |none =>
    have hf:RS.dV s.bC=i:=RS.Cg _ _ Fk (.inl hx)
    rw [hf,if_pos rfl,if_pos fE]at hR
    obtain⟨b1,ha1,st,Dx,x3⟩:=wK.Qv T9 true
    rw [ha]at ha1
    obtain rfl:b=b1:=by simpa [ad]using ha1
    refine cr rfl (bw ⟨G.ts,c9,cb,cW ha ?_⟩)
    rw [bu]
    refine⟨st,dh fun h3 e3=>?_⟩
    rw [←e3]at Dx x3
    have ahu:((s.bC.map s.hZ).set i (true,(s.hZ none).2))[i]?=some (true,(s.hZ none).2):=cE (by rw [bA];exact fE)
    obtain⟨b2,ha2,st2,Vh,x4⟩:=Dx.IM ahu r
    rw [ha]at ha2
    obtain rfl:b=b2:=by simpa [ad]using ha2
    refine⟨st2,?_⟩
    rw [ZK]
    refine hR _ bR G ?_ ((x2.trans x3).trans x4).o
    rw [RS.rC,RS.FI _ _ _ hx,ig,erw]
    have e:(((s.bC.map s.hZ).set i (true,(s.hZ none).2)).set i (true,r))=(s.bC.map s.hZ).set i (true,r):=pJ ..
    rw [←e]
    exact Vh
  ·have hie:i=s.bC.length:=by omega
   have hf:RS.dV s.bC=i:=RS.Cg _ _ Fk (.inr hie)
   rw [hf,if_pos rfl,if_neg (by omega)]at hR
   refine bw ⟨G.ts,c9,?_⟩
   refine wK.acT (fk:=r) (by show (s.bC.map s.hZ).length≤_;rw [bA];omega) fun h3 EI G3 Dx x3=>?_
   have ahy:=Dx.NB
   have ahy:G3.ts.n=(s.bC.map s.hZ++[(true,r)]).length:=ahy
   have o0:(s.bC.map s.hZ++[(true,r)]).length=i+1:=by rw [bG,bA,hie];rfl
   have c9':cell h3 ((ad hb).add 9)=some (.slice G3.ts.a G3.ts.n G3.ts.c):=(Dx.c 9).trans rfl
   refine bw ⟨G3.ts,c9',?_⟩
   rw [ahy,o0]
   refine hR h3 EI G3 ?_ (x2.trans x3).o
   rw [RS.rC,cx,gG,bG]
   show dP h3 hb EI {s.dM sp with bC:=s.bC.map s.hZ++[s.hZ (some (s.ident r))],r5:=_} G3
   rw [erw]
   exact Dx
theorem abh {n:Int}{h:Hp}{R:RP}(jz:¬(128≤n∧n≤1048576)→R (vt #[vp none,vi 30]) h)
  (mD:∀h' hb bR G,128≤n∧n≤1048576→dP h' hb bR ((RS.new n.toNat).dM []) G→(∀b,bR b≠.out→h.size≤b)→bY N h h'→R (vt #[vp (sa hb),vi 0]) h'):bq PG 57 #[vi n] h R:=by
 refine ab6 ?_
 unfold aob
 have yR:¬(128≤n∧n≤1048576)→Me n true h R:=fun c=>by unfold Me;exact cr rfl (jz c)
 refine ca (fun c=>yR (by omega)) fun c1=>?_
 by_cases c2:n>1048576
 ·rw [decide_eq_true c2];exact yR (by omega)
 rw [decide_eq_false c2]
 unfold Me
 refine cj rfl (dh fun h1 e1=>?_)
 have k1:bY N h h1:=e1▸cF _ _ _
 have A2:=du h #[vi n,vp none,vp none,.slice none 0 0,.slice none 0 0,.slice none 0 0,vi 0,vi 0,vi 0,.slice none 0 0,vi 0,vi 0,vi 0,vi 0,vi 0,vi 0,vi 0,vi 0,vi 0] 149
 rw [←e1]at A2
 have hz1:h1.size=h.size+1:=by rw [e1];simp
 refine BA (fun fV=>absurd ⟨by omega,by omega⟩ fV) fun L1 h2 _ a1 f1 k2=>⟨_,_,rfl,?_⟩
 have mi:=bF k2 A2 id
 refine eu mi (i:=1) (cm _ _) (by show 1<19;omega) fun h3 zQ k3=>?_
 refine BA (fun fV=>absurd ⟨by omega,by omega⟩ fV) fun L2 h4 _ a2 f2 k4=>⟨_,_,rfl,?_⟩
 have GG:=bF k4 zQ id
 refine eu GG (i:=2) (cm _ _) (by show 2<19;omega) fun h5 wS k5=>?_
 have l1:∀b,L1.fp b→b<h2.size:=a1.lt
 have l2:∀b,L2.fp b→b<h4.size:=a2.lt
 have s2:=k2.1;have s3:=k3.1;have s4:=k4.1;have s5:=k5.1
 have d12:∀b,L2.fp b→¬L1.fp b:=fun b q1 q2=>by have:=f2 b q1;have:=l1 b q2;omega
 have d1:¬L1.fp h.size:=fun q=>by have:=f1 _ q;omega
 have d2:¬L2.fp h.size:=fun q=>by have:=f2 _ q;omega
 let bR:Nat→io:=fun b=>if b=h.size then .hd else if L1.fp b then .dJ else if L2.fp b then .dC else .out
 have r0:bR h.size=.hd:=if_pos rfl
 have r1:∀b,L1.fp b→bR b=.dJ:=fun b fV=>(if_neg fun e:b=h.size=>d1 (e▸fV)).trans (if_pos fV)
 have r2:∀b,L2.fp b→bR b=.dC:=fun b fV=>(if_neg fun e:b=h.size=>d2 (e▸fV)).trans ((if_neg (d12 b fV)).trans (if_pos fV))
 have ro:∀b,b≠h.size→¬L1.fp b→¬L2.fp b→bR b=.out:=fun b q1 q2 q3=>(if_neg q1).trans ((if_neg q2).trans (if_neg q3))
 obtain⟨k,rfl⟩:=dp (show 0≤n by omega)
 have k35:bY (fun b=>b=h.size) h3 h5:=(k4.mono fun _ _ e=>e.elim).trans k5
 refine mD h5 h.size bR ⟨L1,L2,[],⟨none,0,0⟩,none,⟨none,0,0⟩,none,⟨none,0,0⟩,none,⟨none,0,0⟩,none⟩ ⟨by omega,by omega⟩ ⟨?_,r0,fun b fV=>ro b (by omega) (fun q=>by have:=l1 b q;omega) (fun q=>by have:=l2 b q;omega),?_,r1,?_,r2,uL 1 _,nofun,rfl,fun i o L h1 h2=>?_,uL 1 _,nofun,IF 1 _,nofun,uL 2 _,nofun⟩ (fun b iS=>?_) ?_
 ·exact wS
 ·have k25:bY (fun b=>b=h.size) h2 h5:=k3.trans k35
  exact a1.eG k25 fun b q (e:b=h.size)=>d1 (e▸q)
 ·have k5:bY (fun b=>b=h.size) h4 h5:=k5
  exact a2.eG k5 fun b q (e:b=h.size)=>d2 (e▸q)
 ·simp [RS.dM,RS.new]at h1
 ·rcases eS b h.size with hl|hl
  ·exact absurd (ro b (by omega) (fun q=>by have:=f1 b q;omega) (fun q=>by have:=f2 b q;omega)) iS
  ·exact hl
 ·exact⟨by omega,fun b fV _=>by
   rw [k35.2 b (by omega) (by omega),k3.2 b (by omega) (by omega),k2.2 b (by omega) id,k1.2 b fV id]⟩
end
end Go.Ev
