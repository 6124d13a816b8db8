/- The program's table: Put. No condition. -/
import Derived.Test.YtjigacanjlppiaaGreatDoorP12
import Derived.Laws.Strings
import Derived.Shelf.SlSortCmp.NoneTotal
import Derived.Ground.SlsfProg
set_option linter.all false
set_option maxRecDepth 1000000
open Go.IntKind (wrap)
namespace Go.Ev
open Go.Proofs
section
variable {h h' h2:Hp} {q q' q2:HQ} {s s' s2:RS} {nd gm lT:List di} {m:di} {id tb hn:Nat} {T T1 T' T2:TD} {R:RP} {n hs v:Nat} {z:Option Nat} {a:Sl} {x x':iM} {key:LN}
theorem qA.QT(p:qA h q s nd tb hn T):hn-1≠RS.dV s.bC:=fun e=>by
 have:=p.held
 rw [e,nO]at this
 cases this
theorem EY {f:Nat→Nat}:∀ {l:LN} {x:Nat},x∈l→f x≤(l.map f).sum
 | [],_,h=>by cases h
 |y::l,x,h=>by
  rw [cU,f8]
  rcases ck.1 h with rfl|h
  ·omega
  ·have:=EY (f:=f) h;omega
theorem RS.UW(v:s.Inv)(h:s.da id):s.size id+1≤1048576:=by
 rcases h with h|⟨h0,h1⟩
 ·have:=(v.sm id h).2.2.2.1;omega
 ·have h3:=EY (f:=fun id=>if id=0 then 0 else s.size id+1) h1
  rw [←v.lg]at h3
  have h3:(if id=0 then 0 else s.size id+1)≤s.dI:=h3
  rw [if_neg h0]at h3
  have:=v.h2;have:=v.l2
  omega
theorem qA.j19(p:qA h q s nd tb hn T):T.nw.j+1≤20:=by
 have hh:=p.da T.nU
 have e:=RS.IH p.g.v p.g.sh hh
 have h1:=RS.UW p.g.v hh
 unfold RS.qf at e
 rw [p.c.g.wn]at e
 have e2:(((some (⟨5,T.nw.cs.map lL,[]⟩:di)).getD ⟨0,[],[]⟩).sz)=1+2 ^ T.nw.j:=by
  show 1+(T.nw.cs.map lL).length+0=_
  rw [p.tr.K2]
  rfl
 rw [e2]at e
 rcases eS (T.nw.j) 20 with h|h
 ·omega
 ·have h4:(2:Nat) ^ 20≤2 ^ T.nw.j:=fQ (by omega) h
  have h5:(2:Nat) ^ 20=1048576:=by decide
  omega
theorem qA.acR(p:qA h q s nd tb hn T)(g:Gs h' q' s' nd)(er:s'.bC=ix s.bC v)(ex:Ex h q h' q'):qA h' q' s' nd tb hn T :=
 ⟨g,p.l.ex ex,p.pos,p.lt,by rw [er,kK,if_neg p.QT];exact p.held,p.c,p.tz.ex ex⟩
theorem MV {l:List (Option Nat)} (r:List (Option Nat)) (h:wQ r (ix l v)):wQ (r.set (RS.dV l) none) l :=
 wQ.back fun j=>by rw [h,kK]
theorem Sh(l:ti h q tb 0){r w1 w2:Int}(hR:R (vt #[vb false,vi 61]) h):bq PG 48 #[vp (sa tb),.slice a.a a.n a.c,vu r,vu w1,vu w2] h R:=by
 refine DN ?_
 unfold Tq
 exact bw ⟨_,l.c1,cr rfl hR⟩
theorem Si(l:ti h q tb hn)(hp:1≤hn)(na:a.n=key.length)(hk:4096<key.length){r w1 w2:Int}(hR:R (vt #[vb false,vi 62]) h):bq PG 48 #[vp (sa tb),.slice a.a a.n a.c,vu r,vu w1,vu w2] h R:=by
 refine DN ?_
 unfold Tq
 rw [na]
 exact bw ⟨_,l.c1,cj (by rw [beq_eq_false_iff_ne];omega) (cr (decide_eq_true (by omega)) hR)⟩
theorem UC(x:Gs h q s nd)(l:ti h q tb hn)(hp:1≤hn)(na:a.n=key.length)(hk:key.length≤4096)(hl:s.bC.length<100000000){r:Nat}(hr:r<18446744073709551616)(hb:s.pW r=false){w1 w2:Int}
  (hR:∀h' q',Gs h' q' s nd→Ex h q h' q'→R (vt #[vb false,vi 32]) h'):bq PG 48 #[vp (sa tb),.slice a.a a.n a.c,uv r,vu w1,vu w2] h R:=by
 refine DN ?_
 unfold Tq
 rw [na]
 refine bw ⟨_,l.c1,cj (by rw [beq_eq_false_iff_ne];omega) (cj (decide_eq_false (by omega)) (bw ⟨_,l.c0,Zg x.st hl hr ?_⟩))⟩
 have e:s.uR r=(s,0,32):=by unfold RS.uR;rw [hb];rfl
 rw [e]
 exact fun h' q' x' ex=>⟨_,_,rfl,cr rfl (hR h' q' ⟨x',x.sh⟩ ex)⟩
theorem VX(c:yT nd T)(ht:some T.t∈s.bC)(hx:x∈T.dc){dN:LN}(hv:x.r=v):Lv nd s.bC dN↔Lv nd (ix s.bC v) dN:=by
 have hv0:v≠0→vD nd s.bC v:=fun h0=>by
  have ht0:vD nd s.bC T.t:=.root ht (c.g.nz _ T.jO)
  have he:=c.rch ht0 _ (TD.pq hx)
  obtain⟨n,hn⟩:=(c.g.TZ (c.g.hs x hx)).1.Uj (c.g.By hx)
  exact .next he hn.1 (by unfold iM.node;rw [hv];simp) h0
 constructor
 ·exact Lv.mem (fun y h0 h=>.root (oP.2 (.inr h)) h0) fun y h0 h=>by
   rcases oP.1 h with rfl|h
   ·exact hv0 h0
   ·exact .root h h0
 ·exact Lv.mem (fun y h0 h=>by
   rcases oP.1 h with rfl|h
   ·exact hv0 h0
   ·exact .root h h0) fun y h0 h=>.root (oP.2 (.inr h)) h0
theorem Iu.bC {iN j:Nat}{l m:List (Option Nat)} (b:Iu iN nd l T j gm T') (h:∀dN,Lv nd m dN→Lv nd l dN):Iu iN nd m T j gm T' :=
 ⟨b.n,b.lS,b.was,fun h1 h2 dN lv=>b.L0 h1 h2 dN (h dN lv),b.anw,fun h1 h2=>(have r:=b.room h1 h2;⟨r.1,fun dN lv=>r.2.1 dN (h dN lv),r.2.2⟩)⟩
theorem aqw(p:qA h q s nd tb hn T)(k:oH T)(sr:Zs h q a key)(o0:key.length≤4096)(hl:s.bC.length<90000000)(hv:v=0∨s.da v){w1 w2:Nat}(hw1:w1<18446744073709551616)(hw2:w2<18446744073709551616)
  (LG:∀e r h' q' s' gm T',T.Bz key=some e→T.dc.Perm (e::r)→T'.dc.Perm (({e with r:=v,a:=w1,b:=w2}:iM)::r)→T'.sE=tM T.sE→uB h q s nd T h' q' s' gm T'→R (vt #[vb false,vi 0]) h')
  (sY:∀h' q' s' kq T1 gm,T.Bz key=none→qB nd T kq T1→Stepped T T1→(∃m,gm=kq++m) →
   (∀dN,Lv kq (some v::s.bC) dN→¬(iP s.cM (1+RS.mS kq dN) (RS.mT kq dN) (2+dH key.length)∧iP s.cM (1+RS.mS kq dN+yj (2+dH key.length)) (RS.mT kq dN+ym (2+dH key.length)) 7)) →
   uB h q s nd T h' q' s' gm T1→R (vt #[vb false,vi 31]) h')
  (vV:∀x h' q' s' kq T1 lT T2 gm T',T.Bz key=none→qB nd T kq T1→Stepped T T1→qB kq T1 lT T2 →
   (∀dN,Lv kq (some v::s.bC) dN→(iP s.cM (1+RS.mS kq dN) (RS.mT kq dN) (2+dH key.length)∧iP s.cM (1+RS.mS kq dN+yj (2+dH key.length)) (RS.mT kq dN+ym (2+dH key.length)) 7)) →
   x.key=key→x.r=v→x.a=w1→x.b=w2→x.hs=fU T.df key→T2.dc.Perm (x::T1.dc)→x.k=kq.length→x.e=kq.length+1→T2.sE=T1.sE →
   Nk (2 ^ T2.nw.j<T2.dc.length) s.cM lT s.bC T2 (T2.nw.j+1) gm T'→oH T2→uB h q s nd T h' q' s' gm T'→R (vt #[vb true,vi 0]) h') :
  bq PG 48 #[vp (sa tb),.slice a.a a.n a.c,uv (s.fk v),uv w1,uv w2] h R:=by
 refine DN ?_
 unfold Tq
 have wW:=p.pos
 have hhl:fU T.df key<18446744073709551616:=Bi _ _
 rw [sr.n]
 refine bw ⟨_,p.l.c1,cj (by rw [beq_eq_false_iff_ne];omega) (cj (decide_eq_false (by omega)) (bw ⟨_,p.l.c0,BU p.g hv (by omega) fun h1 q1 s1 g1 al1 JQ G0=>⟨_,_,rfl,cj rfl ?_⟩⟩))⟩
 have p1:=p.acR g1 JQ G0
 have ahK:RS.dV s.bC+1-1=RS.dV s.bC:=by omega
 have rl1:s1.bC.length≤max s.bC.length (rF s.bC+1):=by rw [JQ];exact BS _ _
 have aAH:rF s.bC≤s.bC.length:=JW _
 refine bw ⟨_,p1.l.c0,?_⟩
 refine NA p1 fun h2 q2 s2 lT T1 b2 a2 st _ f2=>⟨_,rfl,?_⟩
 have p2:=a2.jp p1
 have k2:=k.lS st.df st.lS
 have TX:Zs h2 q2 a key:=(sr.ex G0).ex a2.ex
 have er2:s2.bC=ix s.bC v:=by rw [f2.rt,JQ]
 have el2:s2.cM=s.cM:=f2.al.iN.trans al1.iN
 refine D9 p2.tr (k:=0) rfl rfl ⟨_,rfl,?_⟩
 rw [←sr.n]
 refine Ut (a:=a) TX.rd TX.n TX.b8 (by omega) k2.sd fun h3 kk3=>⟨_,rfl,?_⟩
 have p3:=p2.cI kk3
 have ef:=Na k st.df st.lS key
 have eg:Ex h q h2 q2:=G0.trans a2.ex
 have nA:∀(b:Bool) (e:Int) h' q' s' gm T',Gs h' q' s' gm→qB nd T gm T'→wQ s'.bC (ix s.bC v)→s'.bC.length≤max s.bC.length (rF s.bC+2)→s'.cM=s.cM→Ex h q h' q' →
   (∀h5 q5 s5,uB h q s nd T h5 q5 s5 gm T'→R (vt #[vb b,vi e]) h5)→qM PG 84 #[vp (sa q1.hb),vi ((RS.dV s.bC+1:Nat):Int)] h' fun _ h7=>R (vt #[vb b,vi e]) h7:=fun b e h' q' s' gm T' g n re rl el ex hR=>by
  have eh:q'.hb=q1.hb:=ex.1.trans G0.1.symm
  rw [←eh]
  refine aaF g (id:=v) (by omega) (by rw [ahK,re,kK,if_pos rfl]) fun h5 q5 s5 g5 al5 Ui ex5=>hR h5 q5 s5 ⟨g5,n,?_,?_,al5.iN.trans el,ex.trans ex5⟩
  ·rw [Ui,ahK];exact MV _ re
  ·rw [Ui,cd];exact rl
 have n2:qB nd T lT T1:=a2.n
 have hvr:s.fk v=s2.fk v:=by rw [←al1.fk,f2.fk]
 refine ND p3 k2 (fC kk3 TX.rd) TX.n TX.b8 (fun hf h4 r i kk4=>⟨_,_,_,rfl,cj rfl ?_⟩) fun pr e c h4 hf hc he kk4=>⟨_,_,_,rfl,?_⟩
 ·
  have hfT:T.Bz key=none:=by rw [←ef];exact hf
  have p4:=p3.cI kk4
  have Dm:bY N h2 h4:=cL kk3 kk4 fun _ z=>z.elim
  have acx:Ex h2 q2 h4 q2:=Ex.pm Dm fun b hb=>p2.g.st.fr hb
  refine bw ⟨_,p4.l.c0,dh fun h5 e5=>?_⟩
  have k5:bY N h4 h5:=e5▸cF _ _ _
  have p5:=p4.cI k5
  have sr4:Zs h4 q2 a key:=TX.ex acx
  have aus:Ex h4 q2 h5 q2:=Ex.pm k5 fun b hb=>p4.g.st.fr hb
  have srs:=aaU sr4 (by omega) e5 fun pp hp Tc=>(sr4.out pp hp Tc).2
  have efl:[key].flatten=key:=by simp
  have e17:1+0+(1+dH key.length)=2+dH key.length:=by omega
  have aor:Ex h q h5 q2:=(eg.trans acx).trans aus
  have lvE:∀dN,Lv lT (some v::s.bC) dN↔Lv lT s2.bC dN:=fun dN=>by rw [er2];exact(Lv.root lT s.bC v).symm
  refine alv p5.g srs (by show 1<_;omega) (by rw [efl];exact sr.b8) (fun hb=>absurd hb (by rw [efl];omega)) ?_ ?_
  ·rw [efl]
   intro _ h6 q6 s6 g6 er6 el6 ex6 hr6
   refine⟨_,_,rfl,cr rfl (nA false 31 h6 q6 s6 lT T1 g6 n2 (by rw [er6,er2];exact wQ.refl _) (by rw [er6,er2,←JQ];omega) (el6.trans el2) (aor.trans ex6) fun h7 q7 s7 A=>sY h7 q7 s7 lT T1 lT hfT n2 st ⟨[],by simp⟩ (fun dN lv z=>hr6 ?_) A)⟩
   rw [p5.g.room ((lvE dN).1 lv) 0 _,el2,e17]
   exact z.1
  ·rw [efl]
   intro h6 q6 s6 ok6 g6 er6 el6 hh6 ex6 hr6
   have aoq:=aor.trans ex6
   have l6:=p5.l.ex ex6
   refine⟨_,_,rfl,cj rfl (bw ⟨_,l6.c0,BU g6 (.inr hh6) (by rw [er6,er2,←JQ];omega) fun h7 q7 s7 g7 al7 er7 ex7=>⟨_,_,rfl,?_⟩⟩)⟩
   have l7:=l6.ex ex7
   have aiT:s6.bC=ix s.bC v:=er6.trans er2
   have auz:s7.bC=ix (ix s.bC v) lT.length:=by rw [er7,aiT]
   have hfr:RS.dV s6.bC+1-1=RS.dV s6.bC:=by omega
   have abx:∀j,s7.bC.getD j none=if j=RS.dV s6.bC then some lT.length else s6.bC.getD j none:=fun j=>by rw [er7];exact kK _ _ _
   have ahe:s7.cM=s.cM:=al7.iN.trans (el6.trans el2)
   have rl7:s7.bC.length≤max s.bC.length (rF s.bC+2):=by
    rw [auz]
    have:=BS (ix s.bC v) lT.length
    rw [TB]at this
    rw [JQ]at rl1
    omega
   have KM:∀dN,Lv lT (some v::s.bC) dN→(s7.zf 3 3↔iP s.cM (1+RS.mS lT dN+yj (2+dH key.length)) (RS.mT lT dN+ym (2+dH key.length)) 7):=fun dN lv=>by
    have lv2:=(lvE dN).1 lv
    have lv7:Lv (lT++[oV key]) s7.bC (dN++[lT.length]):=by
     rw [er7,er6];exact p5.g.leaf lv2 (by intro r hr;cases hr)
    have:=g7.room lv7 3 3
    obtain⟨QI,q2'⟩:=Ll (p5.g.ag8 lv2) (oV key)
    have ez:(oV key).sz=2+dH key.length:=by
     show 1+0+(j8 key).length=_
     rw [ok6.is.len];omega
    rw [QI,q2',ez,ahe,←mL]at this
    exact this
   refine bw ⟨_,l7.c0,A7 g7 (k:=6) (r:=3) (w:=3) ⟨⟨by omega,by omega⟩,⟨by omega,by omega⟩,by omega,by omega⟩ rfl rfl rfl (fun h8 q8 s8 g8 er8 el8 ex8 hr8=>?_) fun h8 q8 s8 g8 er8 el8 hh8 ex8 hr8=>?_⟩
   ·have l8:=l7.ex ex8
    have hd8:s8.bC.getD (RS.dV s6.bC+1-1) none=some lT.length:=by rw [er8,hfr,abx,if_pos rfl]
    refine⟨_,_,rfl,bw ⟨_,l8.c0,Vv g8 (by omega) hd8 ⟨_,_,rfl,bw ⟨_,l8.c0,BV g8 (by omega) hd8 fun h9 q9 s9 g9 al9 er9 ex9=>⟨_,rfl,cr rfl ?_⟩⟩⟩⟩⟩
    have re9:wQ s9.bC (ix s.bC v):=by
     rw [er9,hfr,er8,←aiT];exact wQ.back abx
    refine nA false 31 h9 q9 s9 _ T1 g9 ?_ re9 (by rw [er9,cd,er8];exact rl7) (al9.iN.trans (el8.trans ahe)) (((aoq.trans ex7).trans ex8).trans ex9) fun h5 q5 s5 A=>sY h5 q5 s5 lT T1 _ hfT n2 st ⟨[oV key],rfl⟩ (fun dN lv z=>hr8 ((KM dN lv).2 z.2)) A
    refine⟨p5.c.eG fun i hi=>bL (p5.g.lt (p5.da hi)),n2.t,n2.df,by rw [bG];have:=n2.len;omega,fun i hi hni=>?_,n2.own⟩
    rw [bL (by have:=n2.len;omega)];exact n2.fr i hi hni
   ·have l8:=l7.ex ex8
    have hd8:s8.bC.getD (RS.dV s6.bC+1-1) none=some lT.length:=by rw [er8,hfr,abx,if_pos rfl]
    have aec:(lT++[oV key]).length=lT.length+1:=by simp
    rw [aec]at hh8
    rw [aec]
    refine⟨_,_,rfl,bw ⟨_,l8.c0,Vv g8 (by omega) hd8 ⟨_,_,rfl,bw ⟨_,l8.c0,BV g8 (by omega) hd8 fun h9 q9 s9 g9 al9 er9 ex9=>⟨_,rfl,cj rfl ?_⟩⟩⟩⟩⟩
    have aty:s8.da lT.length:=g8.da (.root (lV.2 ⟨_,hd8⟩) (by have:=p5.g.pos;omega))
    have re9:wQ s9.bC (ix s.bC v):=by
     rw [er9,hfr,er8,←aiT];exact wQ.back abx
    have l9:=l8.ex ex9
    have aop:=(((aoq.trans ex7).trans ex8).trans ex9)
    have anf:s9.bC.getD (RS.dV s.bC+1-1) none=some v:=by rw [ahK,re9,kK,if_pos rfl]
    have abo:s9.da (lT.length+1):=(al9.da _).2 hh8
    have am1:s9.da lT.length:=(al9.da _).2 aty
    have atx:v=0∨s9.da v:=by
     by_cases h0:v=0
     ·exact .inl h0
     ·exact .inr (g9.da (.root (lV.2 ⟨_,anf⟩) h0))
    have auy:s8.fk (lT.length+1)=s9.fk (lT.length+1):=(al9.fk _).symm
    have aux:s8.fk lT.length=s9.fk lT.length:=(al9.fk _).symm
    refine bw ⟨_,l9.c0,Vv g9 (by omega) anf ⟨_,_,rfl,?_⟩⟩
    rw [show ((s8.fk (lT.length+1):Nat):Int)=((s9.fk (lT.length+1):Nat):Int)by rw [auy],show (s8.fk lT.length:Int)=(s9.fk lT.length:Int)by rw [aux]]
    obtain⟨nd9,Wx⟩:∃nd9,nd9=lT++[oV key]++[(⟨6,List.replicate 3 0,List.replicate 3 0⟩:di)]:=⟨_,rfl⟩
    rw [←Wx]at g9
    have asv:nd9.length=lT.length+2:=by rw [Wx];simp
    have ash:∀i,i<lT.length→nd9[i]?=lT[i]?:=fun i hi=>by rw [Wx,ce,bL hi]
    have atk:nd9[lT.length]?=some (oV key):=by rw [Wx,ce,bN (bH _),dD];rfl
    have ate:nd9[lT.length+1]?=some ⟨6,[0,0,0],[0,0,0]⟩:=by rw [Wx,ce,bN (by omega),fm];rfl
    refine bw ⟨_,l9.c0,zu (wF.refl g9) ate abo (.inr am1) (k:=1) (by simp) rfl fun ha qa sa nda fa va=>⟨_,rfl,?_⟩⟩
    have na:nda[lT.length+1]?=some ⟨6,[0,lT.length,0],[0,0,0]⟩:=by rw [va,if_pos rfl];rfl
    refine bw ⟨_,(l9.ex fa.ex).c0,?_⟩
    refine vO fa na abo (w:=fU T1.df key) (Bi _ _) (k:=0) (by simp) rfl fun hb qb sb ndb fb xm=>⟨_,rfl,?_⟩
    obtain⟨x0,tF⟩:∃x0:iM,x0=⟨lT.length+1,lT.length,fU T1.df key,key,0,0,0⟩:=⟨_,rfl⟩
    have nb2:ndb[x0.e]?=some (x0.node 0):=by rw [tF,xm,if_pos rfl];rfl
    have x0e:x0.e=lT.length+1:=by rw [tF]
    rw [←x0e]
    refine aku l9 fb (by rw [x0e];exact abo) atx hw1 hw2 nb2 fun hc qc sc T7 fc vc=>⟨rfl,?_⟩
    obtain⟨x,hx⟩:∃x:iM,x={x0 with r:=v,a:=w1,b:=w2}:=⟨_,rfl⟩
    have xe:x.e=lT.length+1:=by rw [hx];exact x0e
    have xk:x.k=lT.length:=by rw [hx,tF]
    have xh:x.hs=fU T1.df key:=by rw [hx,tF]
    have Um:x.key=key:=by rw [hx,tF]
    have xr:x.r=v:=by rw [hx]
    have alF:∀i,i<lT.length→T7[i]?=lT[i]?:=fun i hi=>by
     rw [vc,if_neg (by rw [x0e];omega),xm,if_neg (by omega),va,if_neg (by omega)];exact ash i hi
    have ltT:∀i∈T1.dN,i<lT.length:=fun i hi=>p2.g.lt (p2.da hi)
    have cC:yT T7 T1:=p2.c.eG fun i hi=>alF i (ltT i hi)
    have WG:sc.bC.getD (hn-1) none=some T1.t:=by
     rw [fc.rt,re9,kK,if_neg p.QT,n2.t];exact p.held
    have pC:qA hc qc sc T7 tb hn T1:=⟨fc.g,l9.ex fc.ex,p.pos,p.lt,WG,cC,p.tz.ex (aop.trans fc.ex)⟩
    have nxe:x.e∉T1.dN:=fun hm=>by have:=ltT _ hm;omega
    have nxk:x.k∉T1.dN:=fun hm=>by have:=ltT _ hm;omega
    have ZJ:x.hs<18446744073709551616:=by rw [xh];exact Bi _ _
    have asr:T7[x.e]?=some (x.node 0):=by rw [vc,xe,←x0e,if_pos rfl,hx]
    have asq:T7[x.k]?=some (oV x.key):=by rw [vc,xk,Um,if_neg (by rw [x0e];omega),xm,if_neg (by omega),va,if_neg (by omega)];exact atk
    have hce:sc.da x.e:=by rw [xe];exact fc.da abo
    have hck:sc.da x.k:=by rw [xk];exact fc.da am1
    rw [show (s9.fk x0.e:Int)=(sc.fk x.e:Int)by rw [xe,←x0e,←fc.fk],show (fU T1.df key:Int)=(x.hs:Int)by rw [xh]]
    refine ac6 pC.tr ZJ (fun _ _ _=>rfl) nxe nxk (by omega) hce hck asr asq (by rw [Um];exact ok6) fun hd qd sd ndd fd td vd=>⟨rfl,?_⟩
    obtain⟨y1,y2,y3,y4,y5,y6,y7,y8⟩:=T1.zP x.hs (x::T1.chain x.hs)
    have azm:=p2.len
    have sh5:=NM T1 x.hs (x::T1.chain x.hs)
    obtain⟨j5,m5⟩:=IN T1 x.hs (x::T1.chain x.hs) p2.c.j2 p2.c.mv
    obtain⟨rr,pm1,pm2⟩:=cC.g.lS ZJ
    have SJ:(T1.fW x.hs (x::T1.chain x.hs)).dc.Perm (x::T1.dc):=(pm2 _).trans (List.Perm.cons x pm1.symm)
    have asF:∀i∈(T1.fW x.hs (x::T1.chain x.hs)).dN,i∈T1.dN∨i=x.e∨i=x.k:=fun i hi=>by
     rw [T1.uN]at hi
     rcases bI.1 hi with hi|hi
     ·exact .inl (bW _ hi)
     ·have hi:=(iT SJ).mem_iff.1 hi
      rw [gS]at hi
      rcases ck.1 hi with rfl|hi
      ·exact .inr (.inl rfl)
      rcases ck.1 hi with rfl|hi
      ·exact .inr (.inr rfl)
      ·exact .inl (bK _ hi)
    have arM:(T1.pick x.hs).id∈T1.dN:=cC.g.Bb x.hs
    generalize hTT:T1.fW x.hs (x::T1.chain x.hs)=TT at *
    have tnd:=td.c.tn
    have hTt:TT.t=T1.t:=y1
    refine Z4 td (by omega) ⟨_,rfl,bw ⟨_,td.l.c0,_,zN td.g td.l td.pos td.held ⟨rfl,rfl⟩,?_⟩⟩
    have ew:wrap .u64 (wrap .i64 ((T1.dc.length:Int)+1))=((T1.dc.length+1:Nat):Int):=by rw [bU (by omega) (by omega),eN (by omega) (by omega)];omega
    have ew2:wrap .i64 ((T1.dc.length:Int)+1)=((T1.dc.length+1:Nat):Int):=by rw [bU (by omega) (by omega)];omega
    rw [ew,ew2]
    refine vO (wF.refl td.g) tnd td.ht (w:=T1.dc.length+1) (by omega) (k:=1) (by simp) rfl fun he qe se nde fe ve=>⟨_,rfl,?_⟩
    have elE:TT.dc.length=T1.dc.length+1:=by rw [SJ.length_eq];simp
    have okE:yT nde TT:=⟨by rw [elE,y3];exact td.c.aqG fun i=>by rw [ve];rfl,m5,j5⟩
    have pE:qA he qe se nde tb hn TT:=⟨fe.g,td.l.ex fe.ex,td.pos,td.lt,by rw [fe.rt];exact td.held,okE,td.tz.ex fe.ex⟩
    have asg:∀i,i<lT.length→i∉T1.dN→nde[i]?=lT[i]?:=fun i hi hni=>by
     rw [ve,if_neg fun e=>hni (by rw [e,hTt];exact T1.jO),vd,if_neg fun e=>hni (by rw [e];exact arM),if_neg (by omega)]
     exact alF i hi
    have azn:nde.length=lT.length+2:=by rw [fe.len,fd.len,fc.len];exact asv
    have nE:qB lT T1 nde TT:=⟨okE,hTt,y2,by omega,asg,fun i hi=>by
     rcases asF i hi with h|h|h
     ·exact .inl h
     ·exact .inr (by omega)
     ·exact .inr (by omega)⟩
    have reE:wQ se.bC (ix s.bC v):=by rw [fe.rt,fd.rt,fc.rt];exact re9
    have rlE:se.bC.length≤max s.bC.length (rF s.bC+2):=by rw [fe.rt,fd.rt,fc.rt,er9,cd,er8];exact rl7
    have ahd:se.cM=s.cM:=fe.al.iN.trans (fd.al.iN.trans (fc.al.iN.trans (al9.iN.trans (el8.trans ahe))))
    have exE:=((aop.trans fc.ex).trans fd.ex).trans fe.ex
    have kE:oH TT:=k2.put y2 SJ (by rw [xh,Um]) fun y hy=>by rw [Um];exact FV hf y hy
    refine Ea pE.tr (k:=0) rfl rfl ⟨_,rfl,zh pE.g pE.l pE.c.g.wn (pE.da (TD.nU _)) ⟨_,rfl,?_⟩⟩
    rw [pE.tr.K2]
    have jn:=pE.c.g.jn
    have h2j:=o7 jn
    have aeq:=fun h6 q6 s6 Ob T6 hE A=>vV x h6 q6 s6 lT T1 nde TT Ob T6 hfT n2 st nE (fun dN lv=>⟨by
      have:=(p5.g.room ((lvE dN).1 lv) 0 (1+dH key.length)).1 hr6
      rw [el2,e17]at this;exact this,(KM dN lv).1 hr8⟩) Um xr (by rw [hx]) (by rw [hx]) (by rw [xh,n2.df]) SJ xk xe sh5 hE kE A
    have hrt:some TT.t∈s.bC:=lV.2 ⟨hn-1,by rw [hTt,n2.t];exact p.held⟩
    refine ca (fun Ue=>?_) fun uc=>?_
    ·have Ue:2 ^ TT.nw.j<TT.dc.length:=by rw [elE];generalize 2 ^ TT.nw.j=y at *;omega
     have e2:wrap .i64 ((2:Int)*((2 ^ TT.nw.j:Nat):Int))=((2 ^ (TT.nw.j+1):Nat):Int):=by
      rw [mr]
      generalize 2 ^ TT.nw.j=y at *
      rw [bU (by omega) (by omega)];omega
     rw [e2]
     have ZQ:=pE.j19
     refine UG pE (by have:=pE.c.j2.1;omega) ZQ fun h6 q6 s6 Ob T6 g6 B er el ex=>⟨rfl,?_⟩
     refine nA true 0 h6 q6 s6 Ob T6 g6 (n2.trans (nE.trans B.n)) (by rw [er];exact reE) (by rw [er];exact rlE) (el.trans ahd) (exE.trans ex) fun h7 q7 s7 A=>aeq h7 q7 s7 Ob T6 ?_ A
     unfold Nk
     rw [if_pos Ue,←ahd]
     refine B.bC fun dN lv=>?_
     have lv':=(VX (s:=s) okE hrt (x:=x) (SJ.mem_iff.2 (bQ ..)) xr).1 lv
     exact Lv.T5 reE.symm lv'
    ·have uc:¬2 ^ TT.nw.j<TT.dc.length:=by rw [elE];generalize 2 ^ TT.nw.j=y at *;omega
     refine nA true 0 he qe se nde TT pE.g (n2.trans nE) reE rlE ahd exE fun h7 q7 s7 A=>aeq h7 q7 s7 nde TT ?_ A
     unfold Nk
     rw [if_neg uc]
     exact⟨rfl,rfl⟩
 ·
  have hfT:T.Bz key=some e:=by rw [←ef];exact hf
  have p4:=p3.cI kk4
  have Dm:bY N h2 h4:=cL kk3 kk4 fun _ z=>z.elim
  have acx:Ex h2 q2 h4 q2:=Ex.pm Dm fun b hb=>p2.g.st.fr hb
  have hm:=(pz hf).1
  have Do:=p4.c.g.hs e hm
  have hse:=(p4.c.g.TZ Do).1
  rw [hc]at hse
  obtain⟨GY,hkn,ok⟩:=(ou.1 hse).2.1
  have ZN:=p4.da (TD.pq hm)
  refine cr (by rw [bne_iff_ne];have:=RS.un p4.g.v ZN;omega) ?_
  rw [show (s.fk v:Int)=(s2.fk v:Int)by rw [hvr]]
  have Wm:v=0∨s2.da v:=hv.imp_right fun h=>f2.da ((al1.da _).2 h)
  refine aku p4.l (wF.refl p4.g) ZN Wm hw1 hw2 GY fun h5 q5 s5 GM f5 v5=>⟨rfl,?_⟩
  obtain⟨r,pm1,pm2⟩:=p4.c.g.lS Do
  have c5:=p4.c.g.aqF (x':={e with r:=v,a:=w1,b:=w2}) (gm:=GM) Do hc rfl rfl rfl rfl v5
  obtain⟨y1,y2,y3,y4,y5,y6,y7,y8⟩:=T1.zP e.hs (pr++({e with r:=v,a:=w1,b:=w2}:iM)::c)
  obtain⟨j5,m5⟩:=IN T1 e.hs (pr++({e with r:=v,a:=w1,b:=w2}:iM)::c) p4.c.j2 p4.c.mv
  have SJ:T1.dc.Perm (e::((pr++c)++r)):=by
   rw [hc]at pm1
   refine pm1.trans ?_
   rw [ce,ce]
   exact gT
  have pm5:(T1.fW e.hs (pr++({e with r:=v,a:=w1,b:=w2}:iM)::c)).dc.Perm (({e with r:=v,a:=w1,b:=w2}:iM)::((pr++c)++r)):=by
   refine(pm2 _).trans ?_
   rw [ce,ce]
   exact gT
  have el5:(T1.fW e.hs (pr++({e with r:=v,a:=w1,b:=w2}:iM)::c)).dc.length=T1.dc.length:=by rw [pm5.length_eq,SJ.length_eq];simp
  have ahs:∀i∈(T1.fW e.hs (pr++({e with r:=v,a:=w1,b:=w2}:iM)::c)).dN,i∈T1.dN:=fun i hi=>by
   rw [T1.uN]at hi
   rcases bI.1 hi with hi|hi
   ·exact bW _ hi
   ·refine bK _ ((iT SJ).mem_iff.2 ?_)
    exact(iT pm5).mem_iff.1 hi
  have ok5:yT GM (T1.fW e.hs (pr++({e with r:=v,a:=w1,b:=w2}:iM)::c)):=⟨by rw [y3,el5];exact c5,m5,j5⟩
  have n5:qB lT T1 GM (T1.fW e.hs (pr++({e with r:=v,a:=w1,b:=w2}:iM)::c)) :=
   ⟨ok5,y1,y2,by rw [f5.len];exact bH _,fun i _ hi=>by rw [v5,if_neg fun e1=>hi (by rw [e1];exact TD.pq hm)],fun i hi=>.inl (ahs i hi)⟩
  refine nA false 0 h5 q5 s5 GM _ f5.g (n2.trans n5) (by rw [f5.rt,er2];exact wQ.refl _) (by rw [f5.rt,er2,←JQ];omega) (f5.al.iN.trans el2) ((eg.trans acx).trans f5.ex) fun h7 q7 s7 A=>?_
  exact LG e ((pr++c)++r) h7 q7 s7 GM _ hfT (st.lS.symm.trans SJ) pm5 ((NM T1 e.hs _).trans st.sn) A
end
section
end
section
end
section
variable {h h' h2:Hp} {q q' q2:HQ} {s s' s2:RS} {nd gm lT:List di} {m:di} {tb hn:Nat} {T:TD} {R:RP} {hs v:Nat} {x:iM}
def wT(t df:Nat):TD:=⟨t,df,⟨t+1,2,[[],[],[],[]]⟩,none,0⟩
theorem SQ(t df:Nat):(wT t df).dc=[]:=rfl
theorem EV(t df:Nat):(wT t df).dN=[t,t+1]:=rfl
theorem aa0 {nd:List di}{t df:Nat}(h0:t≠0)(h1:nd[t]?=some ⟨4,[t+1,0],[df,0,0]⟩)(h2:nd[t+1]?=some ⟨5,[0,0,0,0],[]⟩):yT nd (wT t df):=by
 refine⟨⟨h1,h2,nofun,rfl,nofun,by show 2≤20;omega,nofun,fun i c hc=>?_,nofun,nofun,nofun,?_,fun i hi=>?_,fun _=>rfl⟩,nofun,⟨bH _,nofun⟩⟩
 ·have:c=[]:=by
   have hm:c∈[[],[],[],([]:List iM)]:=bx hc
   simpa using hm
  subst this
  exact⟨trivial,nofun⟩
 ·rw [EV];simp
 ·rw [EV]at hi
  simp at hi;omega
theorem VO {t df:Nat}(h:df<18446744073709551616):oH (wT t df):=⟨h,nofun,gQ⟩
theorem aaZ(t df:Nat):(wT t df).sE=(4,0,0):=rfl
theorem af9(x:Gs h q s nd)(tz:Tz h q)(HU:s.bC.length<90000000){df:Nat}(hs:df<18446744073709551616)
  (sY:∀h' q' s' gm,Gs h' q' s' gm→(∃m,gm=nd++m)→wQ s'.bC s.bC→s'.bC.length≤max s.bC.length (rF s.bC+2)→s'.cM=s.cM→Ex h q h' q' →
   (∀dN,Lv nd s.bC dN→¬(iP s.cM (1+RS.mS nd dN) (RS.mT nd dN) 6∧iP s.cM (1+RS.mS nd dN+6) (RS.mT nd dN) 5))→R (vt #[vp none,vi 31]) h')
  (vV:∀h' q' s' gm tb,qA h' q' s' gm tb (RS.dV s.bC+1) (wT nd.length df)→(∃m,gm=nd++m)→s'.bC=ix s.bC nd.length→s'.cM=s.cM→Ex h q h' q'→h.size≤tb→tb<h'.size→q'.bR tb=.out →
   (∀dN,Lv nd s.bC dN→(iP s.cM (1+RS.mS nd dN) (RS.mT nd dN) 6∧iP s.cM (1+RS.mS nd dN+6) (RS.mT nd dN) 5))→R (vt #[vp (sa tb),vi 0]) h') :
  bq PG 58 #[vp (sa q.hb),uv df] h R:=by
 refine ab5 ?_
 unfold aoa
 have hp:=x.pos
 refine A7 x (k:=4) (r:=2) (w:=3) ⟨⟨by omega,by omega⟩,⟨by omega,by omega⟩,by omega,by omega⟩ rfl rfl rfl (fun h1 q1 s1 g1 JQ el1 G0 hr=>⟨_,_,rfl,cr rfl (sY h1 q1 s1 nd g1 ⟨[],by simp⟩ (by rw [JQ];exact wQ.refl _) (by rw [JQ];omega) el1 G0 fun dN lv z=>hr ((x.room lv 2 3).2 z.1))⟩) fun h1 q1 s1 g1 JQ el1 ZO G0 hr=>⟨_,_,rfl,cj rfl ?_⟩
 have at0:(nd++[(⟨4,List.replicate 2 0,List.replicate 3 0⟩:di)])[nd.length]?=some ⟨4,[0,0],[0,0,0]⟩:=by rw [bN (bH _),dD];rfl
 rw [←G0.1]
 refine vO (wF.refl g1) at0 ZO (w:=df) hs (k:=0) (by simp) rfl fun h2 q2 s2 lT f2 v2=>⟨_,rfl,?_⟩
 have alV:lT.length=nd.length+1:=by rw [f2.len];simp
 have e2:lT=nd++[⟨4,[0,0],[df,0,0]⟩]:=by
  refine cG fun i=>?_
  rw [v2]
  by_cases e:i=nd.length
  ·rw [if_pos e,e,bN (bH _),dD];rfl
  ·rw [if_neg e]
   by_cases hl:i<nd.length
   ·rw [bL hl,bL hl]
   ·rw [bV (by simp;omega),bV (by simp;omega)]
 subst e2
 have vW:q1.hb=q2.hb:=f2.ex.1.symm
 have hh2:=f2.da ZO
 rw [vW,f2.fk nd.length]
 refine BU f2.g (.inr hh2) (by rw [f2.rt,JQ];omega) fun h3 q3 s3 g3 al3 er3 ex3=>⟨_,_,rfl,?_⟩
 have Tt:s3.bC=ix s.bC nd.length:=by rw [er3,f2.rt,JQ]
 have aoC:RS.dV s2.bC=RS.dV s.bC:=by rw [f2.rt,JQ]
 have ahf:s3.cM=s.cM:=al3.iN.trans (f2.al.iN.trans el1)
 have acy:Ex h q h3 q3:=(G0.trans f2.ex).trans ex3
 have rl3:s3.bC.length≤max s.bC.length (rF s.bC+1):=by rw [Tt];exact BS _ _
 have KM:∀dN,Lv nd s.bC dN→(s3.zf 4 0↔iP s.cM (1+RS.mS nd dN+6) (RS.mT nd dN) 5):=fun dN lv=>by
  have lv3:Lv (nd++[(⟨4,[0,0],[df,0,0]⟩:di)]) s3.bC (dN++[nd.length]):=by
   rw [Tt];exact x.leaf lv (by intro r hr;simpa using hr)
  have:=g3.room lv3 4 0
  obtain⟨QI,q2'⟩:=Ll (x.ag8 lv) (⟨4,[0,0],[df,0,0]⟩:di)
  rw [QI,q2',ahf,←mL]at this
  exact this
 rw [aoC]
 rw [show q2.hb=q3.hb by rw [ex3.1]]
 refine A7 g3 (k:=5) (r:=4) (w:=0) ⟨⟨by omega,by omega⟩,⟨by omega,by omega⟩,by omega,by omega⟩ rfl rfl rfl (fun h4 q4 s4 g4 er4 el4 ZS hr4=>⟨_,_,rfl,cr rfl ?_⟩) fun h4 q4 s4 g4 er4 el4 hh4 ZS hr4=>⟨_,_,rfl,cj rfl ?_⟩
 ·rw [show q3.hb=q4.hb by rw [ZS.1]]
  have hd4:s4.bC.getD (RS.dV s.bC+1-1) none=some nd.length:=by rw [er4,Tt,jC,kK,if_pos rfl]
  refine BV g4 (by omega) hd4 fun h5 q5 s5 g5 al5 Ui ex5=>⟨_,rfl,sY h5 q5 s5 _ g5 ⟨_,rfl⟩ ?_ ?_ (al5.iN.trans (el4.trans ahf)) ((acy.trans ZS).trans ex5) fun dN lv z=>hr4 ((KM dN lv).2 z.2)⟩
  ·rw [Ui,er4,Tt,jC];exact MV _ (wQ.refl _)
  ·rw [Ui,cd,er4];omega
 ·have alU:(nd++[(⟨4,[0,0],[df,0,0]⟩:di)]).length=nd.length+1:=by simp
  rw [alU]at hh4
  rw [alU]
  refine dh fun h5 e5=>?_
  have k5:bY N h4 h5:=e5▸cF _ _ _
  have wS:eM h5 h4.size [vp (sa q4.hb),vi ((RS.dV s.bC+1:Nat):Int)]:=by
   rw [show q4.hb=q3.hb from ZS.1]
   exact e5▸du h4 #[vp (sa q3.hb),vi ((RS.dV s.bC+1:Nat):Int)] _
  have l5:ti h5 q4 h4.size (RS.dV s.bC+1):=⟨wS,g4.st.fr (bH _)⟩
  have g5:=g4.cI k5
  have hd5:s4.bC.getD (RS.dV s.bC+1-1) none=some nd.length:=by rw [er4,Tt,jC,kK,if_pos rfl]
  have hht:s4.da nd.length:=g4.da (.root (lV.2 ⟨_,hd5⟩) (by omega))
  have YT:nb h4=ad h4.size:=rfl
  rw [YT]
  refine zN g5 l5 (by omega) hd5 ⟨_,rfl,?_⟩
  rw [show q3.hb=q4.hb by rw [ZS.1]]
  have at5:(nd++[(⟨4,[0,0],[df,0,0]⟩:di)]++[(⟨5,List.replicate 4 0,List.replicate 0 0⟩:di)])[nd.length]?=some ⟨4,[0,0],[df,0,0]⟩:=by
   rw [ce,bN (bH _),dD];rfl
  refine zu (wF.refl g5) at5 hht (.inr hh4) (k:=0) (by simp) rfl fun h6 q6 s6 Ob f6 v6=>⟨_,rfl,?_⟩
  have hfr:=RS.vm s.bC
  have aou:Ex h4 q4 h6 q6:=(Ex.pm k5 fun b hb=>g4.st.fr hb).trans f6.ex
  have e6:Ob=nd++[⟨4,[nd.length+1,0],[df,0,0]⟩,⟨5,[0,0,0,0],[]⟩]:=by
   refine cG fun i=>?_
   rw [v6]
   by_cases e:i=nd.length
   ·rw [if_pos e,e,bN (bH _),dD];rfl
   ·rw [if_neg e,ce]
    by_cases hl:i<nd.length
    ·rw [bL hl,bL hl]
    ·have ap:∀l:List di,(nd++l)[i]?=l[i-nd.length]?:=fun l=>bN (by omega)
     rw [ap,ap]
     obtain⟨j,hj⟩:∃j,i-nd.length=j+1:=⟨i-nd.length-1,by omega⟩
     rw [hj];rfl
  have ok:yT Ob (wT nd.length df):=by
   refine aa0 (by omega) ?_ ?_
   ·rw [e6,bN (bH _),dD];rfl
   ·rw [e6,bN (by omega),fm];rfl
  have l6:=l5.ex f6.ex
  refine vV h6 q6 s6 Ob h4.size ⟨f6.g,l6,by omega,by omega,by rw [f6.rt];exact hd5,ok,tz.ex ((acy.trans ZS).trans aou)⟩ ⟨_,e6⟩ (by rw [f6.rt,er4,Tt]) (f6.al.iN.trans (el4.trans ahf)) ((acy.trans ZS).trans aou) (bP acy.2.1 ZS.2.1) (eE l6.row) l6.out fun dN lv=>⟨(x.room lv 2 3).1 hr,(KM dN lv).1 hr4⟩
theorem akp(x:Gs h q s nd)(tz:Tz h q)(HU:s.bC.length<90000000)(c:yT nd T)(hh:s.da T.t)
  (vV:∀h' q' s' tb,qA h' q' s' nd tb (RS.dV s.bC+1) T→s'.Kh s→s'.bC=ix s.bC T.t→Ex h q h' q'→h.size≤tb→tb<h'.size→q'.bR tb=.out→R (vt #[vp (sa tb),vi 0]) h') :
  bq PG 45 #[vp (sa q.hb),uv (s.fk T.t)] h R:=by
 refine Rv ?_
 unfold ain
 refine QH x c.g.tn hh ⟨_,_,_,_,rfl,cj rfl ?_⟩
 show H6 (sa q.hb) (s.fk T.t:Int) false h R
 unfold H6
 refine cj rfl (BU x (.inr hh) (by omega) fun h1 q1 s1 g1 al1 JQ G0=>⟨_,_,rfl,dh fun h2 e2=>?_⟩)
 have k2:bY N h1 h2:=e2▸cF _ _ _
 have mi:eM h2 h1.size [vp (sa q1.hb),vi ((RS.dV s.bC+1:Nat):Int)]:=by
  rw [G0.1]
  exact e2▸du h1 #[vp (sa q.hb),vi ((RS.dV s.bC+1:Nat):Int)] _
 have l2:ti h2 q1 h1.size (RS.dV s.bC+1):=⟨mi,g1.st.fr (bH _)⟩
 have hfr:=RS.vm s.bC
 exact vV h2 q1 s1 h1.size ⟨g1.cI k2,l2,by omega,by omega,by rw [JQ,jC,kK,if_pos rfl],c,(tz.ex G0).cI k2⟩ al1 JQ (G0.trans (Ex.pm k2 fun b hb=>g1.st.fr hb)) G0.2.1 (eE mi) l2.out
theorem Sj(x:Gs h q s nd){r:Nat}(hr:r<18446744073709551616)(hb:(s.uW r).2≠0∨(s.uW r).1.1≠4) (hR:R (vt #[vp none,vi 60]) h):bq PG 45 #[vp (sa q.hb),uv r] h R:=by
 refine Rv ?_
 unfold ain
 refine qr x.v x.st.rp hr ⟨_,_,_,_,rfl,?_⟩
 have yR:H6 (sa q.hb) (r:Int) true h R:=by unfold H6;exact cr rfl hR
 refine fY (fun _=>yR) fun h0=>?_
 have h0:(s.uW r).2=0:=by simpa using h0
 have h1:=hb.resolve_left fun h=>h h0
 have e:((((s.uW r).1.1:Nat):Int) != (4:Int))=true:=by rw [bne_iff_ne];omega
 rw [e];exact yR
theorem agc(p:qA h q s nd tb hn T)
  (hR:∀h1 q1 s1 h2,Ex h q h1 q1→bY (fun b=>b=tb) h1 h2→Gs h2 q1 s1 nd→s1.Kh s→s1.bC=s.bC.set (hn-1) none→ti h2 q1 tb 0→q1.bR tb=.out→R (vt #[]) h2) :
  bq PG 40 #[vp (sa tb)] h R:=by
 refine Ry ?_
 unfold aip
 have:=p.pos
 refine bw ⟨_,p.l.c1,cr (by rw [bne_iff_ne];omega) (bw ⟨_,p.l.c0,bw ⟨_,p.l.c1,BV p.g p.pos p.held fun h1 q1 s1 g1 al1 JQ G0=>⟨_,rfl,bw ?_⟩⟩⟩)⟩
 have l1:=p.l.ex G0
 refine eu l1.row (i:=1) (cm _ _) (by simp) fun h2 mi k2=>?_
 exact hR h1 q1 s1 h2 G0 k2 (g1.HP k2 fun b e=>e▸l1.out) al1 JQ ⟨mi,l1.out⟩ l1.out
theorem Z8(l:ti h q tb 0)(hR:R (vt #[]) h):bq PG 40 #[vp (sa tb)] h R:=by
 refine Ry ?_
 unfold aip
 exact bw ⟨_,l.c1,cj rfl hR⟩
theorem af7(p:qA h q s nd tb hn T)(hR:∀h',bY N h h'→R (.agg #[vi (T.dc.length:Nat),vi (T.sE.1:Nat),vi (T.sE.2.1:Nat),vi (T.sE.2.2:Nat)]) h'):bq PG 44 #[vp (sa tb)] h R:=by
 refine Rw ?_
 unfold ace
 refine dh fun h1 e1=>?_
 have k1:bY N h h1:=e1▸cF _ _ _
 have A2:eM h1 h.size [vi 0,vi 0,vi 0,vi 0]:=e1▸du h #[vi 0,vi 0,vi 0,vi 0] _
 have p1:=p.cI k1
 have wW:=p.pos
 have hl:=p.len
 have jn:=o7 p.c.g.jn
 refine bw ⟨_,p1.l.c1,cj (by rw [beq_eq_false_iff_ne];omega) (Z4 p1.tr (by omega) ⟨_,rfl,Ea p1.tr (k:=0) rfl rfl ⟨_,rfl,zh p1.g p1.l p1.c.g.wn (p1.da T.nU) ⟨_,rfl,Ea p1.tr (k:=1) rfl rfl ⟨_,rfl,?_⟩⟩⟩⟩)⟩
 have en:(di.mk 5 (T.nw.cs.map lL) []).cY.length=2 ^ T.nw.j:=p1.tr.K2
 rw [en]
 have nA:∀o:Nat,o=T.sE.2.1→∃t18:Int,(vi (o:Int):Value)=vi t18∧bq PG 61 #[vp (sa tb),vi 4] h1 fun r Aj=>∃t20:Int,r=vu t20∧St Aj (nb h) (vi (T.dc.length:Int)) fun Tl=>St Tl ((nb h).add 1) (vi ((2 ^ T.nw.j:Nat):Int)) fun zC=>St zC ((nb h).add 2) (vi t18) fun H1=>St H1 ((nb h).add 3) (vi (wrap .i64 t20)) fun Nr=>∃akh:Int,cell Nr (nb h)=some (vi akh)∧∃akg:Int,cell Nr ((nb h).add 1)=some (vi akg)∧∃akf:Int,cell Nr ((nb h).add 2)=some (vi akf)∧∃ake:Int,cell Nr ((nb h).add 3)=some (vi ake)∧R (.agg #[vi akh,vi akg,vi akf,vi ake]:Value) Nr:=fun o eo=>by
  subst eo
  refine⟨_,rfl,D9 p1.tr (k:=2) rfl rfl ⟨_,rfl,?_⟩⟩
  have hmv:T.mv≤1048576:=by
   cases ho:T.od with
   |none=>rw [p.c.g.mz ho];omega
   |some o=>have:=p.c.mv o ho;have:=(o7 (p.c.g.jo o ho)).1;omega
  rw [bU (x:=(T.mv:Int)) (by omega) (by omega)]
  have YT:nb h=ad h.size:=rfl
  rw [YT]
  refine eu A2 (i:=0) rfl (by simp) fun h2 mi k2=>?_
  refine eu mi (i:=1) (cm _ _) (by simp) fun h3 zQ k3=>?_
  refine eu zQ (i:=2) (cm _ _) (by simp) fun h4 GG k4=>?_
  refine eu GG (i:=3) (cm _ _) (by simp) fun h5 wS k5=>?_
  refine⟨_,bS wS 0,_,by rw [cm];exact bS wS 1,_,by rw [cm];exact bS wS 2,_,by rw [cm];exact bS wS 3,hR h5 ?_⟩
  have ks:bY (fun b=>b=h.size) h1 h5:=((k2.trans k3).trans k4).trans k5
  exact cL k1 ks fun b e=>by rw [e];exact bH _
 cases ho:T.od with
 |none =>
  rw [TD.uV ho,RS.iQ]
  exact af6 p1.g p1.l (nA 0 (by rw [uM ho]))
 |some o =>
  rw [TD.qV ho]
  refine zh p1.g p1.l (p1.c.g.wo o ho) (p1.da (TD.rG ho)) (nA _ ?_)
  show (tN (o.cs.map lL) T.mv none).length=_
  rw [uJ,bA,p1.c.g.F3 o ho,sL ho]
theorem Z1(x:Gs h q s nd)(l:ti h q tb 0)(hR:∀h',bY N h h'→R (.agg #[vi 0,vi 0,vi 0,vi 0]) h'):bq PG 44 #[vp (sa tb)] h R:=by
 refine Rw ?_
 unfold ace
 refine dh fun h1 e1=>?_
 have k1:bY N h h1:=e1▸cF _ _ _
 have A2:eM h1 h.size [vi 0,vi 0,vi 0,vi 0]:=e1▸du h #[vi 0,vi 0,vi 0,vi 0] _
 have l1:=l.cI k1
 have YT:nb h=ad h.size:=rfl
 refine bw ⟨_,l1.c1,cr rfl ?_⟩
 rw [YT]
 refine eu A2 (i:=0) rfl (by simp) fun h2 mi k2=>?_
 refine eu mi (i:=1) (cm _ _) (by simp) fun h3 zQ k3=>?_
 refine eu zQ (i:=2) (cm _ _) (by simp) fun h4 GG k4=>?_
 refine eu GG (i:=3) (cm _ _) (by simp) fun h5 wS k5=>?_
 refine⟨_,bS wS 0,_,by rw [cm];exact bS wS 1,_,by rw [cm];exact bS wS 2,_,by rw [cm];exact bS wS 3,hR h5 ?_⟩
 have ks:bY (fun b=>b=h.size) h1 h5:=((k2.trans k3).trans k4).trans k5
 exact cL k1 ks fun b e=>by rw [e];exact bH _
theorem af4(x:Gs h q s nd)(l:ti h q tb 0)(hR:R (vb false) h):bq PG 47 #[vp (sa tb)] h R:=by
 refine Rt ?_
 unfold ail
 exact ac4 x l ⟨_,rfl,cr rfl hR⟩
end
structure Nm where
 hs:Nat
 key:LN
 c:Nat
def Nm.hk(x:Nm):HK:=(x.hs,x.key)
def QR(x:Nm):LV:=[uv x.hs,.slice (sa x.c) x.key.length x.key.length]
theorem yG(x:Nm):(QR x).length=2:=rfl
structure NL (h0 h:Hp) (a:Sl) (ob:Option Nat) (l:List Nm):Prop where
 gl:GL 2 h0 h a ob (l.flatMap QR)
 row:∀x∈l,eM h x.c (x.key.map bv)∧h0.size≤x.c∧ob≠some x.c
 CV:(l.map (·.c)).Nodup
section
variable {h h' h0 h1 h2:Hp} {q q2:HQ} {s:RS} {nd:List di} {m:di} {id tb hn:Nat} {T:TD} {R:RP} {n hs v:Nat} {a:Sl} {x:iM} {key:LN} {ob:Option Nat} {l l':List Nm} {S:Nat→Prop}
theorem NL.nil(h0 h:Hp):NL h0 h ⟨none,0,0⟩ none []:=⟨GL.nil 2 h0 h,nofun,gQ⟩
theorem NL.eG(x:NL h0 h a ob l)(k:bY S h h')(hS:∀b,S b→ob≠some b∧∀y∈l,y.c≠b):NL h0 h' a ob l :=
 ⟨x.gl.eG k fun b hb s=>(hS b s).1 hb,fun y hy=>⟨bF k (x.row y hy).1 fun s=>(hS _ s).2 y hy rfl,(x.row y hy).2⟩,x.CV⟩
theorem NL.cI(x:NL h0 h a ob l)(k:bY N h h'):NL h0 h' a ob l:=x.eG k fun _ s=>s.elim
theorem NL.len(x:NL h0 h a ob l):a.n=l.length:=by
 have:=x.gl.len
 rw [gN yG]at this
 omega
theorem NL.add {e t:TypeId}{y:Nm}{K:OA→Nat→Nat→Hp→Prop}(x:NL h0 h a ob l)(ZR:h0.size≤h.size)(hr:eM h y.c (y.key.map bv)) (hy0:h0.size≤y.c) (hyo:ob≠some y.c) (hyn:∀w∈l,w.c≠y.c) (o0:l.length≤400000000)
  (hK:∀a' c' h' jK,NL h0 h' ⟨a',a.n+1,c'⟩ jK (l++[y])→bY (fun b=>ob=some b) h h'→(∀b,jK=some b→ob=some b∨h.size≤b)→K a' (a.n+1) c' h') :
  gi (h.push (.cells #[vu (y.hs:Int),.slice (sa y.c) y.key.length y.key.length] t)) fun h2=>im e 2 32 #[vu 0,.slice none 0 0] a.a a.n a.c (some (nb h)) 1 h2 K:=by
 have hn:=x.len
 refine x.gl.add (arr:=#[vu (y.hs:Int),.slice (sa y.c) y.key.length y.key.length]) ZR rfl rfl (fun v hv=>by
  simp at hv;rcases hv with rfl|rfl<;>rfl) (by omega) (by omega) fun a' c' h' jK gl k nw=>hK a' c' h' jK ⟨?_,fun w hw=>?_,?_⟩ k nw
 ·rw [gW]
  exact gl
 ·have lt:∀w:Nm,eM h w.c (w.key.map bv)→ob≠some w.c→eM h' w.c (w.key.map bv)∧jK≠some w.c:=fun w hw ho=>⟨bF k hw ho,fun e=>(nw _ e).elim ho fun hl=>by have:=eE hw;omega⟩
  rcases bI.1 hw with hw|hw
  ·obtain⟨r1,r2,r3⟩:=x.row w hw
   obtain⟨q1,q2⟩:=lt w r1 r3
   exact⟨q1,r2,q2⟩
  ·rw [bM.1 hw]
   obtain⟨q1,q2⟩:=lt y hr hyo
   exact⟨q1,hy0,q2⟩
 ·rw [cx,cu]
  refine⟨x.CV,by simp,fun u hu w hw e=>?_⟩
  obtain⟨w0,Ua,rfl⟩:=cy.1 hu
  have:w=y.c:=by simpa using hw
  exact hyn w0 Ua (e.trans this)
theorem Z6(p0:qA h0 q s nd tb hn T)(k:bY N h0 h)(x:NL h0 h a ob l){aid i:Nat}{c:List iM}(hA:nd[aid]?=some m)(hr:m.cY[i]?=some (lL c)) (iA:aid∈T.dN) (hsg:BI nd c 0) (hc:∀y∈c,y∈T.dc) (o0:l.length+c.length≤400000000)
  (hR:∀a' jK h' l',NL h0 h' a' jK (l++l')→l'.map Nm.hk=c.map iM.hk→bY (fun b=>ob=some b) h h'→(∀b,jK=some b→ob=some b∨h.size≤b)→(∀y∈l',h.size≤y.c)→R (.slice a'.a a'.n a'.c) h') :
  bq PG 109 #[vp (sa tb),.slice a.a a.n a.c,uv (s.fk aid),vi (i:Nat)] h R:=by
 refine YC ?_
 unfold afu
 have p:=p0.cI k
 refine F9 p.g p.l hA (p.da iA) hr rfl ⟨_,rfl,?_⟩
 refine MI (s1:=a) (fun k2 s0 s1 s9 h2=>∃(IW:Option Nat) (l':List Nm) (r:List iM),k2=r.length∧some (ad tb)=s0∧((s.fk (lL r):Nat):Int)=s9∧BI nd r 0∧(∀y∈r,y∈T.dc)∧NL h0 h2 s1 IW (l++l')∧l'.map Nm.hk++r.map iM.hk=c.map iM.hk∧bY (fun b=>ob=some b) h h2∧(∀b,IW=some b→ob=some b∨h.size≤b)∧(∀y∈l',h.size≤y.c)) c.length
  ⟨ob,[],c,rfl,rfl,rfl,hsg,hc,by rw [eV];exact x,rfl,bY.refl _ _,fun b h=>.inl h,nofun⟩ ?_
 rintro k2 s0 s1 s9 g h2 ⟨IW,l',r,rfl,rfl,rfl,sg,hr,x2,el,k2,nw,ny⟩
 unfold Pr
 cases r with
 |nil =>
  refine cj (by show ((s.fk 0:Int) != 0)=false;rw [RS.iQ];rfl) ?_
  exact hR s1 IW h2 l' x2 (by simpa using el) k2 nw ny
 |cons y r =>
  have kN:bY N h0 h2:=cL k k2 fun b e=>x.gl.new b e
  have p2:=p0.cI kN
  have hy:=hr y (bQ ..)
  have hh:=p2.da (TD.pq hy)
  have hhk:=p2.da (TD.EZ hy)
  obtain⟨GY,hkn,ok⟩:=sg.1
  have hl:=x2.len
  have YU:l'.length+(r.length+1)=c.length:=by
   have:=congrArg List.length el
   simpa using this
  refine cr (by rw [bne_iff_ne];have:=RS.un p2.g.v hh;show (s.fk y.e:Int)≠0;omega) (bw ⟨_,p2.l.c0,?_⟩)
  refine F9 p2.g p2.l GY hh (k:=1) rfl rfl ⟨_,rfl,⟨_,p2.l.c0,rfl⟩,?_⟩
  refine agL p2.g hhk hkn ok fun cb h3 zQ GZ k3=>⟨⟨some (ad cb),y.key.length,y.key.length⟩,_,rfl,?_⟩
  have p3:=p2.cI k3
  have x3:=x2.cI k3
  refine Ec p3.g p3.l GY hh (k:=0) rfl rfl ⟨_,rfl,?_⟩
  have ani:∀w∈l++l',w.c≠cb:=fun w hw e=>by
   have:=eE (x2.row w hw).1;omega
  refine x3.add (y:=⟨y.hs,y.key,cb⟩) (bP kN.1 k3.1) zQ (bP kN.1 GZ) (fun e=>by have:cb<h2.size:=x2.gl.lt e;omega) ani (by rw [bG];omega) fun a' c' h4 ob4 x4 k4 nw4=>?_
  have kN4:bY N h0 h4:=cL (cL kN k3 fun _ z=>z.elim) k4 fun b e=>x2.gl.new b e
  have p4:=p0.cI kN4
  refine F9 p4.g p4.l GY hh (k:=0) rfl rfl ⟨_,rfl,r.length,by simp,ob4,l'++[⟨y.hs,y.key,cb⟩],r,rfl,rfl,rfl,sg.2,fun w hw=>hr w (bJ _ hw),by rw [←ce];exact x4,?_,?_,fun b e=>?_,fun w hw=>?_⟩
  ·rw [←el];simp [Nm.hk,iM.hk]
  ·refine⟨bP k2.1 (bP k3.1 k4.1),fun i hi hs=>?_⟩
   have h1:=k2.2 i hi hs
   have hi2:i<h2.size:=bZ hi k2.1
   have h3':=k3.2 i hi2 _root_.id
   have h4':=k4.2 i (bZ hi2 k3.1) fun e=>(nw i e).elim hs fun hl=>by omega
   exact(h4'.trans h3').trans h1
  ·rcases nw4 b e with h|h
   ·exact nw b h
   ·exact .inr (bP k2.1 (bP k3.1 h))
  ·rcases bI.1 hw with hw|hw
   ·exact ny w hw
   ·rw [bM.1 hw];exact bP k2.1 GZ
end
section
open Go.Proofs Go.Shelf Go.RowKit Go.Lib Go.Sort
theorem Rc {w w':World}(s:gj w w')(k:bY (fun _=>False) w.heap w'.heap):∃q os,w'=grow (w.drewN q) os:=by
 obtain⟨hp,tp,dr,os,out⟩:=w
 obtain⟨HV,tp',dr',DB,ay1⟩:=w'
 obtain⟨s1,s2,s3,s4⟩:=s
 simp only at s1 s2 s3 s4 k
 subst s1 s2 s3
 refine⟨dr'-dr,HV.extract hp.size,?_⟩
 have e1:dr+(dr'-dr)=dr':=by omega
 have e2:hp++HV.extract hp.size=HV:=by
  apply my
  intro i
  rw [Array.getElem?_append]
  split
  ·rename_i hi
   exact(k.2 i hi (fun f=>f)).symm
  ·rename_i hi
   rw [Array.getElem?_extract]
   split
   ·rw [show hp.size+(i-hp.size)=i by omega]
   ·rename_i h2
    rw [jh (by omega)]
 unfold grow World.drewN
 simp only [e1,e2]
section
variable {β:Type} [Inhabited β]
theorem qu(d:Array β)(i:Nat)(hi:i<d.size):d[i]! = d.toList[i]'(by simpa using hi):=by
 rw [getElem!_pos d i hi];rfl
theorem GI(enc:β→Value)(d:Array β)(A ic:LV)(hA:A.length=d.size):putCells enc 0 d (A++ic).toArray=(d.toList.map enc++ic).toArray:=by
 apply my
 intro i
 unfold putCells
 rw [Array.getElem?_mapIdx]
 rw [show ((d.toList.map enc++ic).toArray)[i]?=(d.toList.map enc++ic)[i]? from pZ ..,List.getElem?_append,bA,fx,show (A++ic).toArray[i]?=(A++ic)[i]? from pZ ..,List.getElem?_append,hA]
 by_cases hi:i<d.size
 ·rw [if_pos hi,if_pos hi,br (by omega),dR,if_pos ⟨cP _,by omega⟩,bD,br (by simpa using hi),dR,Nat.sub_zero,qu d i hi]
 ·rw [if_neg hi,if_neg hi]
  cases ic[i-d.size]? with
  |none=>rfl
  |some v=>rw [dR,if_neg (by omega)]
theorem tP(enc:β→Value)(w:World)(b n:Nat)(d:Array β)(os:Array Obj){A ic:LV}(hr:eM w.heap b (A++ic)) (hA:A.length=d.size) :
  bY (fun x=>x=b) w.heap (grow (putRow enc (Sort.ahead w n) b 0 d) os).heap∧eM (grow (putRow enc (Sort.ahead w n) b 0 d) os).heap b (d.toList.map enc++ic):=by
 have hb:=eE hr
 have hs:(putRow enc (Sort.ahead w n) b 0 d).heap.size=w.heap.size:=Go.Sort.size_putRow enc (Sort.ahead w n) b 0 d
 have LG:∀c,c<w.heap.size→(grow (putRow enc (Sort.ahead w n) b 0 d) os).heap[c]?=(putRow enc (Sort.ahead w n) b 0 d).heap[c]?:=fun c hc=>by
  unfold grow
  simp only
  rw [nJ (by omega)]
 refine⟨⟨by rw [size_grow,hs];omega,fun c hc iS=>?_⟩,?_⟩
 ·rw [LG c hc]
  unfold putRow mapBlock
  simp only
  rw [gY,if_neg (fun e=>iS e.symm)]
  rfl
 ·obtain⟨t,ht⟩:=hr
  refine⟨t,?_⟩
  rw [LG b hb]
  unfold putRow mapBlock
  simp only
  have LB:(Sort.ahead w n).heap[b]?=some (.cells (A++ic).toArray t (0,0)):=ht
  rw [gY,if_pos rfl,LB,dR]
  unfold onCells
  simp only
  rw [GI enc d A ic hA]
theorem HW(enc:β→Value)(w:World)(b:Nat)(d:Array β){ic:LV}(hr:eM w.heap b (d.toList.map enc++ic)):Holds enc w b 0 d:=by
 intro j hj
 constructor
 ·have:=bS hr j
  rw [bL (by simpa using hj),bD,br (by simpa using hj),dR,←qu d j hj]at this
  rw [fo]
  exact this
 ·rw [fo]
  exact Rg hr j
end
section
variable {α:Type} [Inhabited α]
theorem OJ(enc:α→LV)(k:Nat)(hk:∀x,(enc x).length=k) (d:Array α):(flatK enc k d).toList.map id=d.toList.flatMap enc:=by
 rw [List.map_id]
 apply cG
 intro i
 by_cases hi:i<d.size*k
 ·have k0:0<k:=by
   rcases oJ k with h|h
   ·subst h;omega
   ·exact h
  have hq:i / k<d.size:=Nat.div_lt_of_lt_mul (by rw [jF];exact hi)
  have hm:i%k<k:=jB _ k0
  have h1:=ml hk d.toList (i / k) (i%k) (d.toList[i / k]'(by simpa using hq)) (br _) hm
  have e:i / k*k+i%k=i:=by have:=Nat.div_add_mod i k;rw [jF]at this;exact this
  rw [e]at h1
  rw [h1]
  have h2:=get_flatK enc k d i hi
  rw [qu _ i (by rw [size_flatK];exact hi),qu d (i / k) hq]at h2
  rw [br (by rw [fx,size_flatK];exact hi),h2]
  rw [br (by rw [hk];exact hm),getElem!_pos _ _ (by rw [hk];exact hm)]
 ·rw [bV (by rw [fx,size_flatK];omega),bV (by rw [gN hk,fx];omega)]
theorem CT {d d':Array α}(h:PermIn 0 d.size d d'):d'.toList.Perm d.toList:=by
 obtain⟨h1,_,h3⟩:=h
 have e1:d.extract 0 d.size=d:=Array.extract_size
 have e2:d'.extract 0 d.size=d':=by rw [←h1];exact Array.extract_size
 rw [e1,e2]at h3
 exact h3
theorem zl {lt:α→α→Bool}{d d':Array α}(hs:d'.size=d.size)(h:SortedIn lt 0 d.size d'):d'.toList.Pairwise fun x y=>lt y x=false:=by
 rw [List.pairwise_iff_getElem]
 intro i j hi hj zc
 have Jh:i<d'.size:=by simpa using hi
 have hj':j<d'.size:=by simpa using hj
 have:=h i j (cP _) zc (by omega)
 rw [qu _ _ Jh,qu _ _ hj']at this
 exact this
end
theorem Qp {γ:Type}{ok:γ→Prop}{cf:γ→γ→Int}(h:SWO (ltOf cf)):SWO (ltOf fun x y:{a // ok a}=>cf x.1 y.1) :=
 ⟨fun x=>h.irrefl x.1,fun x y z=>h.trans x.1 y.1 z.1,fun x y z=>h.ntrans x.1 y.1 z.1⟩
section
variable {P:Program} {ρ:Ren} {γ:Type} {h:Hp} {R:RP}
theorem unattach {ok:γ→Prop}(l:List γ)(hl:∀x∈l,ok x):∃d:List {a // ok a},d.map (·.1)=l:=by
 induction l with
 |nil=>exact⟨[],rfl⟩
 |cons x l ih =>
  obtain⟨d,hd⟩:=ih fun y hy=>hl y (.tail _ hy)
  exact⟨⟨x,hl x (.head _)⟩::d,by rw [cU,hd]⟩
theorem akW(L:SlLaysF0.n6 P ρ)(k:Nat)(aE:∀w,(isAgg (ρ.t 24)).run P w=.ok true w) (zE:∀w,(Go.sizeOf (ρ.t 24)).run P w=.ok k w) (enc:γ→LV) (hk:∀x,(enc x).length=k) (h1:∀x,∀v∈enc x,v.oneCell'=true) (cf:γ→γ→Int) (hO:SWO (ltOf cf)) (g:Nat)
  (eg:∀args w,(callFunc g args).run P w=.ok (.enter g args) w) (ok:γ→Prop) (b cap:Nat) (l:List γ) (ic:LV) (iS:l≠[])
  (ah3:∀h2,bY (fun x=>x=b) h h2→∀x y,ok x→ok y→bq P g #[.agg (enc x).toArray,.agg (enc y).toArray] h2 fun v h3=>v=vi (cf x y)∧bY (fun _=>False) h2 h3)
  (vV:∀x∈l,ok x) (hr:eM h b (l.flatMap enc++ic)) (vF:l.length<4611686018427387904)
  (hR:∀(l':List γ) (h':Hp),l'.Perm l→l'.Pairwise (fun x y=>ltOf cf y x=false)→eM h' b (l'.flatMap enc++ic)→bY (fun x=>x=b) h h'→R (vt #[]) h') :
  bq P (ρ.f 6) #[.slice (some ⟨b,0,none⟩) l.length cap,.func (.func g) #[] #[]] h R:=by
 intro w hw
 subst hw
 obtain⟨d,hd⟩:=unattach l vV
 obtain⟨x0,tF⟩:=lh l iS
 haveI:Inhabited {a // ok a}:=⟨⟨x0,vV x0 tF⟩⟩
 have hke:∀x:{a // ok a},(enc x.1).length=k:=fun x=>hk x.1
 have C2:∀dd:Array {a // ok a},(flatK (fun x=>enc x.1) k dd).toList.map id=(dd.toList.map (·.1)).flatMap enc:=fun dd=>by
  rw [OJ (fun x:{a // ok a}=>enc x.1) k hke dd,qE]
 have Uf:d.length=l.length:=by rw [←hd,bA]
 have vg:(l.flatMap enc).length=d.toArray.size*k:=by rw [gN hk,fZ,Uf]
 have oZ:eM w.heap b ((flatK (fun x:{a // ok a}=>enc x.1) k d.toArray).toList.map id++ic):=by rw [C2,List.toList_toArray,hd];exact hr
 have hH:HoldsK (fun x:{a // ok a}=>enc x.1) k w b 0 d.toArray:=HW id w b _ oZ
 have hC:CmpLays P g #[] (fun x:{a // ok a}=>enc x.1) k (fun x y=>cf x.1 y.1) b 0 d.toArray.size w:=by
  intro m os dk hdk x y
  have hk2:=(tP id w b m (flatK (fun x:{a // ok a}=>enc x.1) k dk) os (A:=l.flatMap enc) (ic:=ic) hr (by rw [size_flatK,hdk];exact vg)).1
  refine(ah3 _ hk2 x.1 y.1 x.2 y.2 _ rfl).mono fun e w' hE=>?_
  obtain⟨v,he,hs,hv,hkk⟩:=hE
  obtain⟨q,DB,hq⟩:=Rc hs hkk
  exact⟨by rw [he,hv],q,DB,hq⟩
 have:=AnyQ.slices_SortFunc L k aE zE (fun x:{a // ok a}=>enc x.1) hke (fun x=>h1 x.1) (fun x y=>cf x.1 y.1) (Qp hO) g #[] b 0 cap d.toArray w eg hC hH (eE hr) (by rw [fZ,Uf];exact vF)
 rw [fZ,Uf]at this
 refine this.mono fun e w' hE=>?_
 obtain⟨he,d',n,os,hp,hs,On⟩:=hE
 have Wo:d'.size=d.toArray.size:=hp.1
 have HV:d'.toList.Perm d:=by
  have:=CT (d:=d.toArray) (d':=d') (by rw [fZ,Uf];exact hp)
  exact this
 have nq:=zl (d:=d.toArray) (d':=d') Wo (by rw [fZ,Uf];exact hs)
 obtain⟨q1,q2⟩:=tP id w b n (flatK (fun x:{a // ok a}=>enc x.1) k d') os (A:=l.flatMap enc) (ic:=ic) hr (by rw [size_flatK,Wo];exact vg)
 rw [C2]at q2
 refine⟨vt #[],he,?_,?_⟩
 ·rw [On]
  exact⟨rfl,rfl,rfl,qC _ _⟩
 ·rw [On]
  refine hR _ _ (hd▸HV.map _) ?_ q2 q1
  rw [lD]
  exact nq
theorem akX(L:SlLaysF.n6 P ρ)(enc:γ→Value)(h1:∀x,(enc x).oneCell'=true) (cf:γ→γ→Int) (hO:SWO (ltOf cf)) (g:Nat)
  (eg:∀args w,(callFunc g args).run P w=.ok (.enter g args) w) (ok:γ→Prop) (b cap:Nat) (l:List γ) (ic:LV) (iS:l≠[])
  (ah3:∀h2,bY (fun x=>x=b) h h2→∀x y,ok x→ok y→bq P g #[enc x,enc y] h2 fun v h3=>v=vi (cf x y)∧bY (fun _=>False) h2 h3)
  (vV:∀x∈l,ok x) (hr:eM h b (l.map enc++ic)) (vF:l.length<4611686018427387904)
  (hR:∀(l':List γ) (h':Hp),l'.Perm l→l'.Pairwise (fun x y=>ltOf cf y x=false)→eM h' b (l'.map enc++ic)→bY (fun x=>x=b) h h'→R (vt #[]) h') :
  bq P (ρ.f 6) #[.slice (some ⟨b,0,none⟩) l.length cap,.func (.func g) #[] #[]] h R:=by
 intro w hw
 subst hw
 obtain⟨d,hd⟩:=unattach l vV
 obtain⟨x0,tF⟩:=lh l iS
 haveI:Inhabited {a // ok a}:=⟨⟨x0,vV x0 tF⟩⟩
 have C2:∀dd:List {a // ok a},dd.map (fun x=>enc x.1)=(dd.map (·.1)).map enc:=fun dd=>by rw [fh];rfl
 have Uf:d.length=l.length:=by rw [←hd,bA]
 have oZ:eM w.heap b (d.toArray.toList.map (fun x=>enc x.1)++ic):=by rw [C2,List.toList_toArray,hd];exact hr
 have hH:Holds (fun x:{a // ok a}=>enc x.1) w b 0 d.toArray:=HW _ w b _ oZ
 have hC:CmpLays1 P g #[] (fun x:{a // ok a}=>enc x.1) (fun x y=>cf x.1 y.1) b 0 d.toArray.size w:=by
  intro m os dk hdk x y
  have hk2:=(tP (fun x:{a // ok a}=>enc x.1) w b m dk os (A:=l.map enc) (ic:=ic) hr (by rw [bA,hdk,fZ,Uf])).1
  refine(ah3 _ hk2 x.1 y.1 x.2 y.2 _ rfl).mono fun e w' hE=>?_
  obtain⟨v,he,hs,hv,hkk⟩:=hE
  obtain⟨q,DB,hq⟩:=Rc hs hkk
  exact⟨by rw [he,hv],q,DB,hq⟩
 have:=Any.slices_SortFunc L (fun x:{a // ok a}=>enc x.1) (fun x=>h1 x.1) (fun x y=>cf x.1 y.1) (Qp hO) g #[] b 0 cap d.toArray w eg hC hH (eE hr) (by rw [fZ,Uf];exact vF)
 rw [fZ,Uf]at this
 refine this.mono fun e w' hE=>?_
 obtain⟨he,d',n,os,hp,hs,On⟩:=hE
 have Wo:d'.size=d.toArray.size:=hp.1
 have HV:d'.toList.Perm d:=by
  have:=CT (d:=d.toArray) (d':=d') (by rw [fZ,Uf];exact hp)
  exact this
 have nq:=zl (d:=d.toArray) (d':=d') Wo (by rw [fZ,Uf];exact hs)
 obtain⟨q1,q2⟩:=tP (fun x:{a // ok a}=>enc x.1) w b n d' os (A:=l.map enc) (ic:=ic) hr (by rw [bA,Wo,fZ,Uf])
 rw [C2]at q2
 refine⟨vt #[],he,?_,?_⟩
 ·rw [On]
  exact⟨rfl,rfl,rfl,qC _ _⟩
 ·rw [On]
  refine hR _ _ (hd▸HV.map _) ?_ q2 q1
  rw [lD]
  exact nq
theorem US(L:SlLaysF0.n6 P ρ)(p:OA)(c:Nat)(fv:Value)(hR:R (vt #[]) h):bq P (ρ.f 6) #[.slice p 0 c,fv] h R:=by
 intro w hw
 subst hw
 exact(AnyF.slices_SortFunc_none L p c fv w).mono fun e w' hE=>by
  obtain⟨he,On⟩:=hE
  subst On
  exact⟨_,he,gj.refl _,hR⟩
end
end
end Go.Ev
namespace Go.Proofs
open Go.Shelf Go.Ev
theorem shq {α:Type}{a b:α}{x:Option α}(h:x=some a)(e:a=b:=by kernel_rfl):x=some b:=h.trans (congrArg some e)
open Tryz
def Tryz.akB:Go.Shelf.Ren:=⟨fun | 6=>157 | 15=>160 | 14=>198 | 28=>208 | 29=>209 | 20=>224 | 21=>225 | 22=>226 | 23=>227 | 24=>228 | 25=>229 | 26=>230 | 27=>231 | 46=>238 | 47=>233 | 48=>234 | 49=>239 | 50=>240 | 57=>242|n=>n,fun | 22=>178 | 24=>102 | 25=>181 | 3=>3 | 39=>75 | 0=>0 | 53=>259 | 55=>27 | 4=>4 | 46=>265 | 45=>264 | 50=>235 | 5=>5 | 9=>9 | 66=>306 | 70=>309 | 76=>315 | 77=>215|n=>n,fun|n=>n⟩
theorem Tryz.sortNm:Go.Proofs.SlLaysF0.n6 PG Tryz.akB:=by
 constructor
 all_goals first|kernel_rfl | (intro w;rfl)|exact shq func160|exact shq func208|exact shq func209|exact shq alt|exact shq als|exact⟨f157.name,by decide,shq func157⟩|exact⟨f198.name,by decide,shq func198⟩|exact⟨f224.name,by decide,shq func224⟩|exact⟨f225.name,by decide,shq func225⟩|exact⟨f226.name,by decide,shq func226⟩|exact⟨f227.name,by decide,shq func227⟩|exact⟨f228.name,by decide,shq func228⟩|exact⟨f229.name,by decide,shq func229⟩|exact⟨f230.name,by decide,shq func230⟩|exact⟨f231.name,by decide,shq func231⟩|exact⟨f238.name,by decide,shq func238⟩|exact⟨f239.name,by decide,shq func239⟩|exact⟨f240.name,by decide,shq func240⟩|exact⟨f242.name,by decide,shq func242⟩
def Tryz.ali:Go.Shelf.Ren:=⟨fun | 6=>112 | 15=>160 | 14=>159 | 28=>208 | 29=>209 | 20=>200 | 21=>201 | 22=>202 | 23=>203 | 24=>204 | 25=>205 | 26=>206 | 27=>207 | 46=>232 | 47=>233 | 48=>234 | 49=>235 | 50=>236 | 57=>241|n=>n,fun | 22=>37 | 24=>39 | 25=>97 | 3=>3 | 39=>75 | 0=>0 | 53=>259 | 55=>27 | 4=>4 | 46=>265 | 45=>264 | 50=>235 | 5=>5 | 9=>9 | 66=>306 | 70=>309 | 76=>315 | 77=>215|n=>n,fun|n=>n⟩
theorem Tryz.sortBs:Go.Proofs.SlLaysF.n6 PG Tryz.ali:=by
 constructor
 all_goals first|kernel_rfl | (intro w;rfl)|exact shq func160|exact shq func208|exact shq func209|exact shq alt|exact shq als|exact⟨f112.name,by decide,shq func112⟩|exact⟨f159.name,by decide,shq func159⟩|exact⟨f200.name,by decide,shq func200⟩|exact⟨f201.name,by decide,shq func201⟩|exact⟨f202.name,by decide,shq func202⟩|exact⟨f203.name,by decide,shq func203⟩|exact⟨f204.name,by decide,shq func204⟩|exact⟨f205.name,by decide,shq func205⟩|exact⟨f206.name,by decide,shq func206⟩|exact⟨f207.name,by decide,shq func207⟩|exact⟨f232.name,by decide,shq func232⟩|exact⟨f235.name,by decide,shq func235⟩|exact⟨f236.name,by decide,shq func236⟩|exact⟨f241.name,by decide,shq func241⟩
end Go.Proofs
namespace Go.Ev
open Go.Proofs Go.Shelf Go.RowKit Go.Lib Go.Sort
theorem QW(x y:HK):ltOf hkC x y=decide (kV x y):=by
 unfold ltOf kV
 rfl
theorem NH:SWO (ltOf hkC) where
 irrefl x:=by rw [QW];exact decide_eq_false (Bh x)
 trans x y z h1 h2:=by
  rw [QW]at *
  exact decide_eq_true (nt (of_decide_eq_true h1) (of_decide_eq_true h2))
 ntrans x y z h1 h2:=by
  rw [QW]at *
  have h1:=of_decide_eq_false h1
  have h2:=of_decide_eq_false h2
  refine decide_eq_false fun h=>?_
  by_cases e:x=y
  ·subst e;exact h2 h
  ·by_cases e2:y=z
   ·subst e2;exact h1 h
   ·exact Bh x (nt h (nt ((qt e2).resolve_left h2) ((qt e).resolve_left h1)))
theorem IB:SWO (ltOf i0) where
 irrefl x:=by unfold ltOf;exact decide_eq_false (yo x)
 trans x y z h1 h2:=by
  unfold ltOf at *
  exact decide_eq_true (qx (of_decide_eq_true h1) (of_decide_eq_true h2))
 ntrans x y z h1 h2:=by
  unfold ltOf at *
  have h1:=of_decide_eq_false h1
  have h2:=of_decide_eq_false h2
  refine decide_eq_false fun h=>?_
  by_cases e:x=y
  ·subst e;exact h2 h
  ·by_cases e2:y=z
   ·subst e2;exact h1 h
   ·exact yo x (qx h (qx ((wh e2).resolve_left h2) ((wh e).resolve_left h1)))
section
variable {h h' h0 h1 h2:Hp} {R:RP} {a:Sl} {ob:Option Nat} {l l':List Nm}
theorem aoM {x y:Nat}(hR:R (vi (if x<y then -1 else if y<x then 1 else 0)) h):bq PG 158 #[uv x,uv y] h R:=by
 refine X1 ?_
 unfold aeZ
 have nan:∀(z:Nat) (R:RP),R (vb false) h→bq PG 199 #[uv z] h R:=fun z R hR=>by
  refine XG ?_
  unfold aeG
  rw [bne_self_eq_false]
  exact hR
 refine nan _ _ ⟨_,rfl,nan _ _ ⟨_,rfl,?_⟩⟩
 refine cj rfl (cj rfl ?_)
 by_cases e:x<y
 ·rw [if_pos e]at hR
  exact cr (decide_eq_true (by omega)) hR
 ·rw [if_neg e]at hR
  refine cj (decide_eq_false (by omega)) ?_
  by_cases e2:y<x
  ·rw [if_pos e2]at hR
   exact cr (decide_eq_true (by omega)) hR
  ·rw [if_neg e2]at hR
   exact cj (decide_eq_false (by omega)) hR
def Nm.In(h:Hp)(x:Nm):Prop:=eM h x.c (x.key.map bv)∧fK x.key
theorem yB {h:Hp}{c:Nat}{l:LV}(r:eM h c l):dZ h (sa c) l:=lQ r fun k v hv=>by rw [fo];exact hv
theorem TF {x y:Nm}(hx:x.In h)(hy:y.In h)(hR:∀h',bY N h h'→R (vi (hkC x.hk y.hk)) h') :
  bq PG 111 #[.agg (QR x).toArray,.agg (QR y).toArray] h R:=by
 refine YA (pF:=(x.hs:Int)) (lf:=⟨some (ad x.c),x.key.length,x.key.length⟩) (mq:=(y.hs:Int)) (mn:=⟨some (ad y.c),y.key.length,y.key.length⟩) ?_
 unfold afs
 refine dh fun h1 e1=>?_
 have r1:eM h1 h.size (QR x):=by rw [e1];exact du h _ 102
 have k1:bY N h h1:=by rw [e1];exact cF h _ N
 clear e1
 refine dh fun h2 e2=>?_
 have r2:eM h2 h1.size (QR y):=by rw [e2];exact du h1 _ 102
 have k2:bY N h1 h2:=by rw [e2];exact cF h1 _ N
 clear e2
 have r1':=bF k2 r1 (fun z=>z)
 have k:=k1.trans k2
 refine⟨_,bS r1' 0,_,bS r2 0,?_⟩
 refine aoM ⟨_,rfl,?_⟩
 unfold Nm.hk hkC at hR
 by_cases e:x.hs<y.hs
 ·rw [if_pos e]
  rw [if_pos e]at hR
  exact cr rfl (hR _ k)
 ·rw [if_neg e]
  rw [if_neg e]at hR
  by_cases e2:y.hs<x.hs
  ·rw [if_pos e2]
   rw [if_pos e2]at hR
   exact cr rfl (hR _ k)
  ·rw [if_neg e2]
   rw [if_neg e2]at hR
   refine cj rfl ⟨⟨some (ad x.c),x.key.length,x.key.length⟩,?_,⟨some (ad y.c),y.key.length,y.key.length⟩,?_,?_⟩
   ·show cell h2 ((ad h.size).add 1)=_
    rw [cm]
    exact bS r1' 1
   ·show cell h2 ((ad h1.size).add 1)=_
    rw [cm]
    exact bS r2 1
   ·exact J5 (yB (bF k hx.1 fun z=>z)) rfl hx.2 (yB (bF k hy.1 fun z=>z)) rfl hy.2 ⟨_,rfl,hR _ k⟩
theorem Tv:∀args w,(callFunc 111 args).run PG w=.ok (.enter 111 args) w:=enters_of Tryz.func111 (by kernel_rfl) rfl
theorem aaX(x:Nm):∀v∈QR x,v.oneCell'=true:=fun v hv=>by
 simp [QR]at hv;rcases hv with rfl|rfl<;>rfl
theorem NL.arh(x:NL h0 h a ob l){b:Nat}(hb:ob=some b):∃ic,eM h b (l.flatMap QR++ic)∧a.a=some (ad b):=by
 obtain⟨e,_,j,r,_⟩:=x.gl.sl.row b hb
 exact⟨j,r,e⟩
theorem sortNm(x:NL h0 h a ob l)(h8:∀y∈l,fK y.key)(hn:(l.map Nm.hk).Nodup) (o0:l.length<400000000)
  (hR:∀l' h',NL h0 h' a ob l'→l'.Perm l→l'.map Nm.hk=Ah (l.map Nm.hk)→bY (fun b=>ob=some b) h h'→R (.slice a.a a.n a.c) h') :
  bq PG 110 #[.slice a.a a.n a.c,.func (.func 111) #[] #[]] h R:=by
 refine YB ?_
 unfold aft
 cases ob with
 |none =>
  have hs:=x.gl.sl.nil rfl
  have hl:l=[]:=dA.1 (by have:=x.len;rw [hs.2.1]at this;exact this.symm)
  subst hl
  have DG:(a.n:Int)=((0:Nat):Int):=by rw [hs.2.1]
  have key:=US (h:=h) (R:=fun r h1=>r=vt #[]∧R (.slice a.a a.n a.c) h1) Tryz.sortNm a.a a.c (.func (.func 111) #[] #[]) ⟨rfl,hR [] h x (fT _) (by rw [kI];exact(List.perm_nil.1 (oU [])).symm) (bY.refl _ _)⟩
  rw [hs.2.1]
  rw [hs.2.1]at key
  exact key
 |some b =>
  obtain⟨ic,oZ,ha⟩:=x.arh rfl
  have hl:=x.len
  by_cases iS:l=[]
  ·subst iS
   have key:=US (h:=h) (R:=fun r h1=>r=vt #[]∧R (.slice a.a a.n a.c) h1) Tryz.sortNm a.a a.c (.func (.func 111) #[] #[]) ⟨rfl,hR [] h x (fT _) (by rw [kI];exact(List.perm_nil.1 (oU [])).symm) (bY.refl _ _)⟩
   have h0:a.n=0:=by rw [hl];rfl
   rw [h0]
   rw [h0]at key
   exact key
  ·have key:=akW (h:=h) (R:=fun r h1=>r=vt #[]∧R (.slice a.a a.n a.c) h1) Tryz.sortNm 2 Tryz.isAgg102 Tryz.sizeOf102 QR yG aaX (fun x y=>hkC x.hk y.hk)
    ⟨fun x=>NH.irrefl x.hk,fun x y z=>NH.trans x.hk y.hk z.hk,fun x y z=>NH.ntrans x.hk y.hk z.hk⟩ 111 Tv (fun y=>y.In h∧y.c≠b) b a.c l ic iS
    (fun h2 k y z hy hz=>TF ⟨bF k hy.1.1 hy.2,hy.1.2⟩ ⟨bF k hz.1.1 hz.2,hz.1.2⟩ fun h3 k3=>⟨rfl,k3⟩)
    (fun y hy=>⟨⟨(x.row y hy).1,h8 y hy⟩,fun e=>(x.row y hy).2.2 (by rw [e])⟩) oZ (by omega)
    (fun l' h' hp hs hr k=>by
     have GW:l'.length=l.length:=hp.length_eq
     have e1:(l'.flatMap QR).length=(l.flatMap QR).length:=by rw [gN yG,gN yG,GW]
     refine⟨rfl,hR l' h' ⟨⟨⟨by rw [e1];exact x.gl.sl.len,nofun,fun b' fV=>?_⟩,x.gl.new⟩,fun y hy=>?_,?_⟩ hp ?_ (k.mono fun i _ e=>by rw [e])⟩
     ·obtain rfl:=bt fV
      obtain⟨_,q2,j2,r2,q3⟩:=x.gl.sl.row b rfl
      refine⟨ha,q2,ic,hr,?_⟩
      obtain⟨t,ht⟩:=oZ
      obtain⟨t2,I8⟩:=r2
      rw [ht]at I8
      have:=congrArg List.length (List.toArray_inj (Obj.cells.inj (bt I8)).1)
      rw [bG,bG]at this
      omega
     ·have DF:=hp.mem_iff.1 hy
      have h3:=x.row y DF
      exact⟨bF k h3.1 fun e=>h3.2.2 (by rw [e]),h3.2⟩
     ·exact(hp.map _).nodup_iff.2 x.CV
     ·have p1:(l'.map Nm.hk).Perm (l.map Nm.hk):=hp.map _
      refine Cb (p1.trans (oU _).symm) ?_ (Cc hn)
      have n1:(l'.map Nm.hk).Nodup:=p1.nodup_iff.2 hn
      have s1:(l'.map Nm.hk).Pairwise fun x y=>ltOf hkC y x=false:=by rw [lD];exact hs
      refine(pP n1 s1).imp fun {u v} hh=>(qt hh.1).resolve_right ?_
      have:=hh.2
      rw [QW]at this
      exact of_decide_eq_false this)
   rw [hl,ha]at key ⊢
   exact key
end
def bsV(x:Nm):Value:=.slice (sa x.c) x.key.length x.key.length
structure BL (h0 h:Hp) (a:Sl) (ob:Option Nat) (l:List Nm):Prop where
 gl:GL 1 h0 h a ob (l.map bsV)
 row:∀x∈l,eM h x.c (x.key.map bv)∧h0.size≤x.c∧ob≠some x.c
 CV:(l.map (·.c)).Nodup
def HN(a b:LN):Prop:=i0 a b<0
section
variable {h h' h0 h1 h2:Hp} {R:RP} {a:Sl} {ob:Option Nat} {l l':List Nm} {S:Nat→Prop}
theorem BL.nil(h0 h:Hp):BL h0 h ⟨none,0,0⟩ none []:=⟨GL.nil 1 h0 h,nofun,gQ⟩
theorem BL.eG(x:BL h0 h a ob l)(k:bY S h h')(hS:∀b,S b→ob≠some b∧∀y∈l,y.c≠b):BL h0 h' a ob l :=
 ⟨x.gl.eG k fun b hb s=>(hS b s).1 hb,fun y hy=>⟨bF k (x.row y hy).1 fun s=>(hS _ s).2 y hy rfl,(x.row y hy).2⟩,x.CV⟩
theorem BL.cI(x:BL h0 h a ob l)(k:bY N h h'):BL h0 h' a ob l:=x.eG k fun _ s=>s.elim
theorem BL.len(x:BL h0 h a ob l):a.n=l.length:=by
 have:=x.gl.len
 rw [bA]at this
 omega
theorem BL.add {e t:TypeId}{y:Nm}{K:OA→Nat→Nat→Hp→Prop}(x:BL h0 h a ob l)(ZR:h0.size≤h.size)(hr:eM h y.c (y.key.map bv)) (hy0:h0.size≤y.c) (hyo:ob≠some y.c) (hyn:∀w∈l,w.c≠y.c) (o0:l.length≤400000000)
  (hK:∀a' c' h' jK,BL h0 h' ⟨a',a.n+1,c'⟩ jK (l++[y])→bY (fun b=>ob=some b) h h'→(∀b,jK=some b→ob=some b∨h.size≤b)→K a' (a.n+1) c' h') :
  gi (h.push (.cells #[.slice (sa y.c) y.key.length y.key.length] t)) fun h2=>im e 1 24 #[.slice none 0 0] a.a a.n a.c (some (nb h)) 1 h2 K:=by
 have hn:=x.len
 refine x.gl.add (arr:=#[.slice (sa y.c) y.key.length y.key.length]) ZR rfl rfl (fun v hv=>by
  simp at hv;rcases hv with rfl;rfl) (by omega) (by omega) fun a' c' h' jK gl k nw=>hK a' c' h' jK ⟨?_,fun w hw=>?_,?_⟩ k nw
 ·rw [cx]
  exact gl
 ·have lt:∀w:Nm,eM h w.c (w.key.map bv)→ob≠some w.c→eM h' w.c (w.key.map bv)∧jK≠some w.c:=fun w hw ho=>⟨bF k hw ho,fun e=>(nw _ e).elim ho fun hl=>by have:=eE hw;omega⟩
  rcases bI.1 hw with hw|hw
  ·obtain⟨r1,r2,r3⟩:=x.row w hw
   obtain⟨q1,q2⟩:=lt w r1 r3
   exact⟨q1,r2,q2⟩
  ·rw [bM.1 hw]
   obtain⟨q1,q2⟩:=lt y hr hyo
   exact⟨q1,hy0,q2⟩
 ·rw [cx,cu]
  refine⟨x.CV,by simp,fun u hu w hw e=>?_⟩
  obtain⟨w0,Ua,rfl⟩:=cy.1 hu
  have:w=y.c:=by simpa using hw
  exact hyn w0 Ua (e.trans this)
theorem YQ:∀args w,(callFunc 65 args).run PG w=.ok (.enter 65 args) w:=enters_of Tryz.func65 (by kernel_rfl) rfl
theorem sortBs(x:BL h0 h a ob l)(h8:∀y∈l,fK y.key)(hn:(l.map (·.key)).Nodup) (o0:l.length<400000000)
  (hR:∀l' h',BL h0 h' a ob l'→l'.Perm l→(l'.map (·.key)).Pairwise HN→bY (fun b=>ob=some b) h h'→R (.slice a.a a.n a.c) h') :
  bq PG 64 #[.slice a.a a.n a.c,.func (.func 65) #[] #[]] h R:=by
 refine ab1 ?_
 unfold an5
 have aqv:l=[]→R (.slice a.a a.n a.c) h:=fun e=>by
  subst e
  exact hR [] h x (fT _) List.Pairwise.nil (bY.refl _ _)
 have hl:=x.len
 by_cases iS:l=[]
 ·have key:=US (h:=h) (R:=fun r h1=>r=vt #[]∧R (.slice a.a a.n a.c) h1) (L:={Tryz.sortBs with}) a.a a.c (.func (.func 65) #[] #[]) ⟨rfl,aqv iS⟩
  have h0:a.n=0:=by rw [hl,iS];rfl
  rw [h0]
  rw [h0]at key
  exact key
 cases ob with
 |none =>
  have hs:=x.gl.sl.nil rfl
  exact absurd (dA.1 (by rw [←hl];exact hs.2.1)) iS
 |some b =>
  obtain⟨ha,_,ic,oZ,_⟩:=x.gl.sl.row b rfl
  have key:=akX (h:=h) (R:=fun r h1=>r=vt #[]∧R (.slice a.a a.n a.c) h1) Tryz.sortBs bsV (fun _=>rfl) (fun x y=>i0 x.key y.key)
    ⟨fun x=>IB.irrefl x.key,fun x y z=>IB.trans x.key y.key z.key,fun x y z=>IB.ntrans x.key y.key z.key⟩ 65 YQ (fun y=>y.In h∧y.c≠b) b a.c l ic iS
    (fun h2 k y z hy hz=>J5 (a:=⟨some (ad y.c),y.key.length,y.key.length⟩) (c:=⟨some (ad z.c),z.key.length,z.key.length⟩) (yB (bF k hy.1.1 hy.2)) rfl hy.1.2 (yB (bF k hz.1.1 hz.2)) rfl hz.1.2 ⟨rfl,bY.refl _ _⟩)
    (fun y hy=>⟨⟨(x.row y hy).1,h8 y hy⟩,fun e=>(x.row y hy).2.2 (by rw [e])⟩) oZ (by omega)
    (fun l' h' hp hs hr k=>by
     have GW:l'.length=l.length:=hp.length_eq
     refine⟨rfl,hR l' h' ⟨⟨⟨by rw [bA,GW,←bA (f:=bsV)];exact x.gl.sl.len,nofun,fun b' fV=>?_⟩,x.gl.new⟩,fun y hy=>?_,?_⟩ hp ?_ (k.mono fun i _ e=>by rw [e])⟩
     ·obtain rfl:=bt fV
      obtain⟨_,q2,j2,r2,q3⟩:=x.gl.sl.row b rfl
      refine⟨ha,q2,ic,hr,?_⟩
      obtain⟨t,ht⟩:=oZ
      obtain⟨t2,I8⟩:=r2
      rw [ht]at I8
      have:=congrArg List.length (List.toArray_inj (Obj.cells.inj (bt I8)).1)
      simp only [bG,bA]at this q3 ⊢
      omega
     ·have DF:=hp.mem_iff.1 hy
      have h3:=x.row y DF
      exact⟨bF k h3.1 fun e=>h3.2.2 (by rw [e]),h3.2⟩
     ·exact(hp.map _).nodup_iff.2 x.CV
     ·have p1:(l'.map (·.key)).Perm (l.map (·.key)):=hp.map _
      have n1:(l'.map (·.key)).Nodup:=p1.nodup_iff.2 hn
      have s1:(l'.map (·.key)).Pairwise fun x y=>ltOf i0 y x=false:=by rw [lD];exact hs
      refine(pP n1 s1).imp fun {u v} hh=>(wh hh.1).resolve_right ?_
      have:=hh.2
      unfold ltOf at this
      exact of_decide_eq_false this)
  rw [hl,ha]at key ⊢
  exact key
end
end Go.Ev
namespace Go.Ev
open Go.Proofs
def TD.lJ(T:TD):List rI:=T.nw::T.od.toList
theorem TD.vA(T:TD):T.lJ.flatMap rI.dc=T.dc:=by
 unfold TD.lJ TD.dc
 cases ho:T.od with
 |none=>rw [TD.zX ho];simp
 |some o=>rw [TD.iu ho];simp
theorem TD.Zl(T:TD):1≤T.lJ.length∧T.lJ.length≤2:=by
 unfold TD.lJ
 cases T.od<;>simp
structure ao0 (nd:List di) (T:TD) (A:rI):Prop where
 n:nd[A.id]?=some ⟨5,A.cs.map lL,[]⟩
 l:A.cs.length=2 ^ A.j
 j:A.j≤20
 s:∀i c,A.cs[i]?=some c→BI nd c 0∧∀x∈c,bk A.j x.hs=i
 i:A.id∈T.dN
 e:∀x∈A.dc,x∈T.dc
theorem yT.arr {nd:List di}{T:TD}(c:yT nd T):∀A∈T.lJ,ao0 nd T A:=fun A hA=>by
 unfold TD.lJ at hA
 rcases ck.1 hA with rfl|hA
 ·exact⟨c.g.wn,c.g.ln,c.g.jn,c.g.sn,T.nU,fun x hx=>bW _ hx⟩
 ·rw [Option.mem_toList]at hA
  have ho:T.od=some A:=hA
  exact⟨c.g.wo A ho,c.g.F3 A ho,c.g.jo A ho,c.g.so A ho,TD.rG ho,fun x hx=>bK _ (by rw [TD.iu ho];exact hx)⟩
theorem CF {α:Type}{l l':List (List α)} (h:l.Sublist l'):l.flatten.Sublist l'.flatten:=by
 induction h with
 |slnil=>exact mZ _
 |cons x _ ih=>rw [pM];exact ih.trans (List.sublist_append_right _ _)
 |cons_cons x _ ih=>rw [pM,pM];exact(mZ _).append ih
theorem QJ {α:Type}(cs:List (List α)) (a n:Nat):(((cs.drop a).take n).flatten).Sublist cs.flatten:=by
 have h:((cs.drop a).take n).Sublist cs:=(mX _ _).trans (pN _ _)
 exact CF h
theorem yT.okb {nd:List di}{T:TD}(c:yT nd T){x:iM}(hx:x∈T.dc):Ko x.key:=by
 rw [←T.vA]at hx
 obtain⟨A,hA,hx⟩:=mf.1 hx
 obtain⟨i,d,hd,hxd⟩:=iC hx
 obtain⟨n,h⟩:=BI.Uj ((c.arr A hA).s i d hd).1 hxd
 exact h.2.2
def TD.part(T:TD)(pj p:Nat):List iM:=T.lJ.flatMap fun A=>A.part pj p
theorem BY {nd:List di}{T:TD}(c:yT nd T){pj p:Nat}(hp:∀A∈T.lJ,pj≤A.j):T.part pj p=T.dc.filter fun x=>decide (bk pj x.hs=p):=by
 unfold TD.part
 rw [←T.vA,xV]
 have:∀l:List rI,(∀A∈l,A∈T.lJ)→l.flatMap (fun A=>A.part pj p)=l.flatMap fun A=>A.dc.filter fun x=>decide (bk pj x.hs=p):=by
  intro l hl
  induction l with
  |nil=>rfl
  |cons A l ih =>
   have ok:=c.arr A (hl A (bQ ..))
   rw [cJ,cJ,ih fun B hB=>hl B (bJ _ hB),aaO (hp A (hl A (bQ ..))) ok.j fun i c hc=>(ok.s i c hc).2]
 exact this _ fun _ h=>h
theorem SN {nd:List di}{T:TD}(c:yT nd T)(k:oH T){pj p:Nat}(hp:∀A∈T.lJ,pj≤A.j):
  ((T.part pj p).map iM.hk).Nodup∧Ah ((T.part pj p).map iM.hk)=T.oo.filter fun x=>decide (bk pj x.1=p):=by
 rw [BY c hp]
 have e:(T.dc.filter fun x=>decide (bk pj x.hs=p)).map iM.hk=(T.dc.map iM.hk).filter fun x=>decide (bk pj x.1=p):=by
  rw [List.filter_map];rfl
 rw [e]
 have hn:((T.dc.map iM.hk).filter fun x=>decide (bk pj x.1=p)).Nodup:=k.WA.sublist kj
 exact⟨hn,Cb ((oU _).trans (T.sU.filter _).symm) (Cc hn) (k.pw.sublist kj)⟩
abbrev TK(s:RS)(A:rI):Value:=uv (s.fk A.id)
section
variable {h h0 h1 h2:Hp} {q q2:HQ} {s s2:RS} {nd:List di} {m:di} {id tb hn:Nat} {T:TD} {R:RP} {a sA:Sl} {ob:Option Nat} {l l':List Nm} {ab c0 c1 pj p:Nat} {yv:Value}
abbrev ajm(J1:Nat→Value→Addr→Addr→Sl→Int→Int→Hp→Prop)(n1:Nat)(yv:Value)(c0 c1:Nat)(sA:Sl)(pj p:Nat)(t:Sl)(R:RP)(h:Hp):Prop :=
 dO (uw PG fN pU (sub [1,1,1,1,1,0,0,1,0,0,1,1,1,0,0] (bd Tryz.f107))) (lM PG fN pU [1,1,1,1,1,0,0,1,0,0,1,1,1,0] (bd Tryz.f107) [sS (Cl J1) n1] (eJ PG Tryz.f107 [] R)) [(0,yv),(1,vp (sa c0)),(2,vp (sa c1)),(4,.slice sA.a sA.n sA.c),(5,vi ((2 ^ pj:Nat):Int)),(7,vi (p:Nat)),(78,.slice t.a t.n t.c),(79,vi ((t.n:Int))),(80,vi 0)] 95 h
theorem ako {J1:Nat→Value→Addr→Addr→Sl→Int→Int→Hp→Prop}{n1:Nat}{g0:Nat→Value}(p0:qA h0 q s nd tb hn T)(k0:oH T)(hp:∀A∈T.lJ,pj≤A.j)(hpp:p<2 ^ pj)(xA:GL 1 h1 h0 sA (some ab) (T.lJ.map (TK s)))
  (r0:eM h0 c0 [vp (sa tb)])
  (hK:∀t ob l g,NL h0 g t ob l→l.map Nm.hk=T.oo.filter (fun x=>decide (bk pj x.1=p))→(∀y∈l,fK y.key)→bY N h0 g→ajm J1 n1 yv c0 c1 sA pj p t R g) :
  FD J1 n1 yv (ad c0) (ad c1) sA ((2 ^ pj:Nat):Int) (p:Nat) g0 h0 R:=by
 have hpj:pj≤20:=bP (hp T.nw (bQ ..)) p0.c.g.jn
 have h2p:=o7 hpj
 have o0:=p0.len
 unfold FD
 refine cr (decide_eq_true (by omega)) ?_
 have an:sA.n=T.lJ.length:=by have:=xA.len;rw [bA]at this;omega
 have la:=T.Zl
 have agU:∀A∈T.lJ,A.dc.length≤T.dc.length:=fun A hA=>by
  rw [←T.vA]
  exact(List.sublist_flatten_of_mem (List.mem_map_of_mem (f:=rI.dc) hA)).length_le
 refine ML (s4:=sA) (s8:=⟨none,0,0⟩) (A0:=sA) (fun m s0 s1 s2 s4 s5 s7 s8 A0 Et Es g=>∃(i:Nat) (ob:Option Nat) (l:List Nm),i≤T.lJ.length∧m=T.lJ.length-i∧yv=s0∧ad c0=s1∧ad c1=s2∧sA=s4∧s5=((2 ^ pj:Nat):Int)∧s7=(p:Int)∧sA=A0∧Et=(sA.n:Int)∧Es=(i:Int)∧NL h0 g s8 ob l∧l.map Nm.hk=((T.lJ.take i).flatMap fun A=>A.part pj p).map iM.hk∧bY N h0 g) T.lJ.length
  ⟨0,none,[],cP _,rfl,rfl,rfl,rfl,rfl,rfl,rfl,rfl,rfl,rfl,NL.nil _ _,rfl,bY.refl _ _⟩ ?_
 rintro m s0 s1 s2 s4 s5 s7 s8 A0 Et Es g1 g ⟨i,ob,l,hi,rfl,rfl,rfl,rfl,rfl,rfl,rfl,rfl,rfl,rfl,x,el,kg⟩
 unfold Pu
 refine ca (fun fE=>?_) fun o5=>?_
 ·have iZ:i<T.lJ.length:=by omega
  have hA:T.lJ[i]?=some (T.lJ[i]'iZ):=br iZ
  generalize T.lJ[i]'iZ=A at hA
  have hAm:A∈T.lJ:=bx hA
  have ok:=p0.c.arr A hAm
  have pA:=hp A hAm
  have hwd:=agU A hAm
  have eA:=o7 ok.j
  have aoz:2 ^ A.j=2 ^ pj*2 ^ (A.j-pj):=by rw [←Nat.pow_add];congr 1;omega
  have hd0:=two_pos (A.j-pj)
  have aAE:2 ^ (A.j-pj)≤1048576:=(o7 (by have:=ok.j;omega)).1
  obtain⟨b',fV,ha,hc⟩:=(xA.cI kg).at (o:=i) (v:=TK s A) (by rw [bD,hA];rfl)
  have pg:=p0.cI kg
  refine⟨⟨by omega,by omega⟩,cW ha ⟨_,by rw [bu,cQ];exact hc,_,(bS (bF kg r0 _root_.id) 0).trans rfl,?_⟩⟩
  refine zh pg.g pg.l ok.n (pg.da ok.i) ⟨_,rfl,by omega,?_⟩
  have Uh:(A.cs.map lL).length=2 ^ pj*2 ^ (A.j-pj):=by rw [bA,ok.l,aoz]
  have e1:wrap .i64 (Int.tdiv (((⟨5,A.cs.map lL,[]⟩:di).cY.length:Nat):Int) ((2 ^ pj:Nat):Int))=((2 ^ (A.j-pj):Nat):Int):=by
   show wrap .i64 (Int.tdiv (((A.cs.map lL).length:Nat):Int) _)=_
   rw [Uh,←tC,Nat.mul_div_cancel_left _ (two_pos pj)]
   exact bU (by omega) (by omega)
  rw [e1]
  have amM:p*2 ^ (A.j-pj)+2 ^ (A.j-pj)≤2 ^ A.j:=by
   rw [aoz,←nP];exact gA _ hpp
  generalize hde:2 ^ (A.j-pj)=d at *
  have e2:wrap .i64 ((p:Int)*(d:Int))=((p*d:Nat):Int):=by
   rw [←mI];exact bU (by omega) (by omega)
  rw [e2]
  have e3:wrap .i64 (wrap .i64 ((p:Int)+1)*(d:Int))=((p*d+d:Nat):Int):=by
   have:wrap .i64 ((p:Int)+1)=((p+1:Nat):Int):=bU (by omega) (by omega)
   rw [this,←mI,nP];exact bU (by omega) (by omega)
  refine MK (s4:=sA) (s8:=s8) (A0:=sA) (fun m s0 s1 s2 s4 s5 s7 s8 oh pc rO A0 Et Es g=>∃(j:Nat) (ob:Option Nat) (l:List Nm),j≤d∧m=d-j∧yv=s0∧ad c0=s1∧ad c1=s2∧sA=s4∧s5=((2 ^ pj:Nat):Int)∧s7=(p:Int)∧oh=(s.fk A.id:Int)∧pc=(d:Int)∧rO=((p*d+j:Nat):Int)∧sA=A0∧Et=(sA.n:Int)∧Es=(i:Int)∧NL h0 g s8 ob l∧l.map Nm.hk=(((T.lJ.take i).flatMap fun A=>A.part pj p)++((A.cs.drop (p*d)).take j).flatten).map iM.hk∧bY N h0 g) d
   ⟨0,ob,l,cP _,rfl,rfl,rfl,rfl,rfl,rfl,rfl,rfl,rfl,by rw [iF],rfl,rfl,rfl,x,by rw [el];simp,kg⟩ ?_
  rintro m s0 s1 s2 s4 s5 s7 s8 oh pc rO A0 Et Es g2 g' ⟨j,jK,l',hj,rfl,rfl,rfl,rfl,rfl,rfl,rfl,rfl,rfl,rfl,rfl,rfl,rfl,x',el',kg'⟩
  unfold Pt
  rw [e3]
  refine ca (fun fE=>?_) fun o5=>?_
  ·have hjd:j<d:=by omega
   have Jj:p*d+j<A.cs.length:=by rw [ok.l];omega
   have hc:A.cs[p*d+j]?=some (A.cs[p*d+j]'Jj):=br Jj
   generalize A.cs[p*d+j]'Jj=ch at hc
   refine⟨_,(bS (bF kg' r0 _root_.id) 0).trans rfl,?_⟩
   have hcm:∀y∈ch,y∈T.dc:=fun y hy=>ok.e y (dY.2 ⟨ch,bx hc,hy⟩)
   have et:(A.cs.drop (p*d)).take (j+1)=(A.cs.drop (p*d)).take j++[ch]:=by
    rw [jP,fi,hc];rfl
   have awO:((T.lJ.take i).flatMap fun A=>A.part pj p).length≤T.dc.length:=by
    have:((T.lJ.take i).flatMap fun A=>A.part pj p).Sublist (T.lJ.flatMap rI.dc):=by
     have q1:((T.lJ.take i).flatMap fun A=>A.part pj p).Sublist (T.lJ.flatMap fun A=>A.part pj p):=by rw [List.flatMap_def,List.flatMap_def];exact CF ((mX _ _).map _)
     have q2:∀L:List rI,(L.flatMap fun A=>A.part pj p).Sublist (L.flatMap rI.dc):=fun L=>by
      induction L with
      |nil=>exact mZ _
      |cons B L ih=>rw [cJ,cJ];exact(QJ B.cs _ _).append ih
     exact q1.trans (q2 _)
    rw [T.vA]at this
    exact this.length_le
   have hbl:l'.length+ch.length≤400000000:=by
    have h1:=congrArg List.length el'
    rw [bA,bA,bG]at h1
    have h2:=(QJ A.cs (p*d) (j+1)).length_le
    rw [et,ki,bG]at h2
    have h3:[ch].flatten.length=ch.length:=by simp
    have h4:A.cs.flatten.length≤T.dc.length:=hwd
    omega
   refine Z6 p0 kg' x' ok.n (i:=p*d+j) (by rw [bD,hc];rfl) ok.i (ok.s _ _ hc).1 hcm hbl fun a' IW g3 l2 x2 el2 k2 nw2 ny2=>⟨a',rfl,d-(j+1),by omega,j+1,IW,l'++l2,hjd,rfl,rfl,rfl,rfl,rfl,rfl,rfl,rfl,rfl,?_,rfl,rfl,rfl,x2,?_,cL kg' k2 fun b e=>x'.gl.new b e⟩
   ·rw [bU (by omega) (by omega)];omega
   ·rw [cx,el',el2,et,ki]
    simp
  ·obtain rfl:j=d:=by omega
   refine⟨T.lJ.length-(i+1),by omega,i+1,jK,l',iZ,rfl,rfl,rfl,rfl,rfl,rfl,rfl,rfl,rfl,by rw [bU (by omega) (by omega)];rfl,x',?_,kg'⟩
   rw [el',jP,hA]
   have:A.part pj p=((A.cs.drop (p*j)).take j).flatten:=by unfold rI.part;rw [hde]
   simp [this]
 ·obtain rfl:i=T.lJ.length:=by omega
  rw [dE]at el
  have el:l.map Nm.hk=(T.part pj p).map iM.hk:=el
  obtain⟨Jf,hso⟩:=SN p0.c k0 (p:=p) hp
  have hm:∀y∈l,fK y.key:=fun y hy=>by
   have:y.hk∈(T.part pj p).map iM.hk:=el▸List.mem_map_of_mem (f:=Nm.hk) hy
   obtain⟨z,hz,e⟩:=cy.1 this
   rw [BY p0.c hp]at hz
   have ok:=p0.c.okb (dU.1 hz).1
   have:z.key=y.key:=congrArg Prod.snd e
   rw [←this]
   exact ok.b8
  have AJ:l.length<400000000:=by
   have h1:=congrArg List.length el
   rw [bA,bA,BY p0.c hp]at h1
   have:=dT (fun x:iM=>decide (bk pj x.hs=p)) T.dc
   omega
  refine sortNm x hm (el▸Jf) AJ fun l2 g2 x2 hp2 e2 k2=>⟨s8,rfl,hK s8 ob l2 g2 x2 (by rw [e2,el,hso]) (fun y hy=>hm y (hp2.mem_iff.1 hy)) (cL kg k2 fun b e=>x.gl.new b e)⟩
end
section
variable {h h':Hp}
theorem hN {l:Nat}{o:Obj}(hl:l<h.size):bY (fun b=>b=l) h (h.setIfInBounds l o) :=
 ⟨by simp,fun j hj iS=>by rw [Array.getElem?_setIfInBounds_ne (Ne.symm iS)]⟩
theorem iJ {l:Nat}{o:Obj}(hl:h[l]?=some o):l<h.size:=(jg.1 hl).1
theorem t7 {l:Nat}{o:Obj}(hl:l<h.size):(h.setIfInBounds l o)[l]?=some o:=by simp [hl]
theorem dv {S:Nat→Prop}(k:bY S h h'){l:Nat}{o:Obj}(hl:h[l]?=some o)(hn:¬S l):h'[l]?=some o:=(k.2 l (iJ hl) hn).trans hl
theorem jI {l b:Nat}{cs:LV}{r:Loop}(hr:eM h b cs)(hl:h[l]?=some (.loop r)):b≠l:=by
 rintro rfl
 obtain⟨t,ht⟩:=hr
 rw [ht]at hl
 cases hl
end
theorem mV.mono {P:Program}{l:Nat}{args:LV}{h:Hp}{R R':RP}(y:mV P l args h R)(hr:∀v h',R v h'→R' v h'):mV P l args h R':=fun w hw=>by
 obtain⟨fn,tmps,ac,bd,e1,e2⟩:=y w hw
 exact⟨fn,tmps,ac,bd,e1,e2.mono fun e w' ⟨v,he,hs,hv⟩=>⟨v,he,hs,hr v _ hv⟩⟩
theorem qj {P:Program}{T:tD}{g:FuncId}{cap:Array Value}{ps:Array Tmp}{assign body:Code}{l:List (Nat × Value)} {M:Nat} {h:Hp} {K:Option Code→Hp→Prop} (hc:vE P g)
  (hK:∀H fn gl,bY N h H→H.size=h.size+2→H[h.size]?=some (.deferred (some []))→H[h.size+1]?=some (.loop (Dk fn (lU M l gl) ps assign body h.size .ready none)) →
   bq P g ([Value.func (.yield (h.size+1)) #[] #[]]++cap.toList).toArray H fun _ h'=>∃st ph,h'[h.size+1]?=some (.loop (Dk fn (lU M l gl) ps assign body h.size st ph))∧st≠.busy∧K ph (h'.setIfInBounds (h.size+1) (.loop (Dk fn (lU M l gl) ps assign body h.size .exhausted ph)))) :
  yU P T (.func (.func g) #[] cap) ps assign body l M h K:=by
 refine⟨g,#[],cap,rfl,hc,fun fn gl=>?_⟩
 have e1:(h.push (.deferred (some []))).size=h.size+1:=by simp
 refine hK _ fn gl ((cF _ _ _).trans (cF _ _ _)) (by simp) ?_ ?_
 ·have e0:(h.push (.deferred (some [])))[h.size]?=some (.deferred (some [])):=by simp
  exact(ER _ _ (by simp)).trans e0
 ·rw [←e1]
  exact Array.getElem?_push_size
end Go.Ev
