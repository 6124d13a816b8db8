/- The program's table: Step. No condition. -/
import Derived.Test.YtjigacanjlppiaaGreatDoorQ11
import Derived.Laws.Strings
import Derived.Shelf.SlSortCmp.NoneTotal
set_option linter.all false
set_option maxRecDepth 1000000
open Go.IntKind (wrap)
namespace Go.Ev
open Go.Proofs
structure Stp (T T1:TD) (o o1:rI) (to:Nat):Prop where
 t:T1.t=T.t
 df:T1.df=T.df
 nid:T1.nw.id=T.nw.id
 nj:T1.nw.j=T.nw.j
 od:T1.od=some o1
 CU:o1.id=o.id
 oj:o1.j=o.j
 mv:T1.mv=to
 lS:T1.dc.Perm T.dc
 dN:∀i∈T1.dN,i∈T.dN
structure Stepped (T T':TD):Prop where
 t:T'.t=T.t
 df:T'.df=T.df
 nid:T'.nw.id=T.nw.id
 nj:T'.nw.j=T.nw.j
 lS:T'.dc.Perm T.dc
 dN:∀i∈T'.dN,i∈T.dN
 sh:∀o,T.od=some o→if 2 ^ o.j≤T.mv+16 then T'.od=none∧T'.mv=0 else(∃o',T'.od=some o'∧o'.id=o.id∧o'.j=o.j)∧T'.mv=T.mv+16
 sh0:T.od=none→T'=T
section
variable {h h' h2:Hp} {q q':HQ} {s s':RS} {nd gm:List di} {id tb hn:Nat} {T T':TD} {R:RP} {hs to:Nat} {z:Option Nat} {x:iM} {o:rI}
theorem U4(hb:∀o,T.od=some o→¬T.mv≤bk o.j hs)(c:List iM):T.fW hs c={T with nw:=T.nw.fW (bk T.nw.j hs) c}∧T.pick hs=T.nw:=by
 unfold TD.fW TD.pick
 cases ho:T.od with
 |none=>exact⟨rfl,rfl⟩
 |some o=>dsimp only;rw [if_neg (hb o ho),if_neg (hb o ho)];exact⟨rfl,rfl⟩
theorem akm(p:qA h q s nd tb hn T)(wX:T.od=none→R (vb false) h)
  (xK:∀h' q' s' gm T',T.od≠none→wF h q s nd h' q' s' gm→qA h' q' s' gm tb hn T'→Stepped T T'→(∀i,i∉T.dN→gm[i]?=nd[i]?)→R (vb true) h') :
  bq PG 47 #[vp (sa tb)] h R:=by
 refine Rt ?_
 unfold ail
 refine Ea p.tr (k:=1) rfl rfl ⟨_,rfl,?_⟩
 cases ho:T.od with
 |none=>exact cr (by rw [TD.uV ho,RS.iQ];rfl) (wX ho)
 |some o =>
 rw [TD.qV ho]
 have hh:=p.da (TD.rG ho)
 have jo:=p.c.g.jo o ho
 have h2:=o7 jo
 have hmv:=p.c.mv o ho
 refine cj (by rw [beq_eq_false_iff_ne];have:=RS.un p.g.v hh;show (s.fk o.id:Int)≠0;omega) (zh p.g p.l (p.c.g.wo o ho) hh ⟨_,rfl,?_⟩)
 have e1:(di.mk 5 (tN (o.cs.map lL) T.mv none) []).cY.length=2 ^ o.j:=by show (tN (o.cs.map lL) T.mv none).length=_;rw [uJ,bA,p.c.g.F3 o ho]
 rw [e1]
 refine D9 p.tr (k:=2) rfl rfl ⟨_,rfl,bw ⟨_,p.l.c0,?_⟩⟩
 obtain⟨to,hto⟩:∃to,to=if T.mv+16<2 ^ o.j then T.mv+16 else 2 ^ o.j:=⟨_,rfl⟩
 have asY:to≤2 ^ o.j∧T.mv<to:=by rw [hto];split<;>omega
 have e2:(if wrap .i64 (wrap .i64 (T.mv:Int)+16)<((2 ^ o.j:Nat):Int)then wrap .i64 (wrap .i64 (T.mv:Int)+16)else((2 ^ o.j:Nat):Int))=(to:Int):=by
  rw [bU (x:=(T.mv:Int)) (by omega) (by omega),bU (by omega) (by omega),hto]
  generalize 2 ^ o.j=y at *
  split<;>split<;>omega
 rw [e2,eN (x:=(to:Int)) (by omega) (by omega),bU (x:=(T.mv:Int)) (by omega) (by omega)]
 refine⟨_,zN p.g p.l p.pos p.held ⟨rfl,rfl⟩,?_⟩
 refine vO (wF.refl p.g) p.c.g.tn (p.da T.jO) (by omega) (k:=2) (by simp) rfl fun h1 q1 s1 kq f1 v1=>⟨_,rfl,?_⟩
 have c1:gD kq {T with mv:=to} T.mv none T.dc.length:=p.c.g.go ho (by omega) asY.1 fun i=>by rw [v1];rfl
 have t1:TR h1 q1 s1 kq tb hn {T with mv:=to} T.mv none T.dc.length:=p.tr.fld f1 rfl c1 fun i hi=>p.da hi
 have fr1:∀i,i∉T.dN→kq[i]?=nd[i]?:=fun i hi=>by rw [v1,if_neg fun e=>hi (by rw [e];exact T.jO)]
 refine OX (fun k s0 s3 s4 s6 s7 h3=>∃(i:Nat) (q3:HQ) (s3':RS) (SS:List di) (T3:TD) (o3:rI),T.mv≤i∧i≤to∧k=to-i∧some (ad tb)=s0∧(s.fk o.id:Int)=s3∧((2 ^ o.j:Nat):Int)=s4∧(to:Int)=s6∧(i:Int)=s7 ∧
   wF h q s nd h3 q3 s3' SS∧TR h3 q3 s3' SS tb hn T3 i none T.dc.length∧Stp T T3 o o3 to∧∀i,i∉T.dN→SS[i]?=nd[i]?) (to-T.mv)
  ⟨T.mv,q1,s1,kq,_,o,bH _,by omega,rfl,rfl,rfl,rfl,rfl,rfl,f1,t1,⟨rfl,rfl,rfl,rfl,ho,rfl,rfl,rfl,fT _,fun _ h=>h⟩,fr1⟩ ?_
 rintro k s0 s3 s4 s6 s7 g h3 ⟨i,q3,s3',SS,T3,o3,hi1,hi2,rfl,rfl,rfl,rfl,rfl,rfl,f3,t3,st,fr3⟩
 unfold Xg
 refine ca (fun fE=>?_) fun o5=>?_
 ·have fE:i<to:=by omega
  have w3:=t3.c.wo o3 st.od
  rw [st.CU]at w3
  have hl3:i<o3.cs.length:=by rw [t3.c.F3 o3 st.od,st.oj];omega
  have hc3:=br hl3
  generalize o3.cs[i]=c0 at hc3
  refine adF f3 t3.l w3 hh (k:=i) (r:=lL c0) (by show (o3.cs.map lL)[i]?=_;rw [bD,hc3];rfl) rfl ⟨_,rfl,?_⟩
  refine OW (fun k2 s0 s3 s4 s6 s7 s8 h4=>∃(q4:HQ) (s4':RS) (nd4:List di) (T4:TD) (o4:rI) (z:Option Nat) (c:List iM),k2=c.length∧some (ad tb)=s0∧(s.fk o.id:Int)=s3∧((2 ^ o.j:Nat):Int)=s4∧(to:Int)=s6∧(i:Int)=s7 ∧
    ((s.fk (lL c):Nat):Int)=s8∧o4.cs[i]?=some c∧wF h q s nd h4 q4 s4' nd4∧TR h4 q4 s4' nd4 tb hn T4 i z T.dc.length∧Stp T T4 o o4 to∧∀i,i∉T.dN→nd4[i]?=nd[i]?) c0.length
   ⟨q3,s3',SS,T3,o3,none,c0,rfl,rfl,rfl,rfl,rfl,rfl,rfl,hc3,f3,t3,st,fr3⟩ ?_
  rintro k2 s0 s3 s4 s6 s7 s8 g2 h4 ⟨q4,s4',nd4,T4,o4,z,c,rfl,rfl,rfl,rfl,rfl,rfl,rfl,hc4,f4,t4,Df,fr4⟩
  unfold Xf
  cases c with
  |nil =>
   refine cj (by show ((s.fk 0:Int) != 0)=false;rw [RS.iQ];rfl) (bw ⟨_,t4.l.c0,?_⟩)
   have w4:=t4.c.wo o4 Df.od
   rw [Df.CU]at w4
   have hl4:i<o4.cs.length:=(bp.1 hc4).1
   have e0:(0:Int)=(s.fk 0:Int):=by rw [RS.iQ];rfl
   rw [e0]
   refine zu f4 w4 hh (.inl rfl) (k:=i) (by show i<(tN (o4.cs.map lL) i z).length;rw [uJ,bA];exact hl4) rfl fun h5 q5 s5 GM f5 v5=>⟨_,rfl,?_⟩
   have c5:gD GM T4 (i+1) none T.dc.length:=t4.c.zero Df.od hc4 (by rw [Df.mv];exact fE) fun y=>by rw [v5,Df.CU]
   have t5:TR h5 q5 s5 GM tb hn T4 (i+1) none T.dc.length:=by
    refine⟨f5.g,p.l.ex f5.ex,p.pos,p.lt,?_,c5,p.tz.ex f5.ex,fun y hy=>f5.da (p.da (Df.dN y hy))⟩
    rw [f5.rt,Df.t];exact p.held
   refine⟨to-(i+1),by omega,i+1,q5,s5,GM,T4,o4,by omega,fE,rfl,rfl,rfl,rfl,rfl,by rw [bU (by omega) (by omega)];rfl,f5,t5,Df,fun y hy=>?_⟩
   rw [v5,if_neg fun e=>hy (by rw [e];exact TD.rG ho)];exact fr4 y hy
  |cons x c =>
   obtain⟨cO,pO,x1,x2,x3,bO,hO,eO,sO,xe,xk⟩:=t4.c.off Df.od hc4
   have ZN:=p.da (Df.dN _ xe)
   have hhk:=p.da (Df.dN _ xk)
   refine cr (by rw [bne_iff_ne];have:=RS.un p.g.v ZN;show (s.fk x.e:Int)≠0;omega) ?_
   refine adF f4 t4.l eO.1 ZN (k:=0) rfl rfl ⟨_,rfl,agK f4 t4.l eO.1 ZN (k:=0) rfl rfl ⟨_,rfl,?_⟩⟩
   have oO:(T4.tE o4 i c).od=some (o4.fW i c):=rfl
   have mO:(T4.tE o4 i c).mv=to:=Df.mv
   have tO:TR h4 q4 s4' nd4 tb hn (T4.tE o4 i c) i (some (z.getD x.e)) T.dc.length :=
    ⟨t4.g,t4.l,t4.pos,t4.lt,t4.held,cO,t4.tz,fun y hy=>t4.hr y (sO y hy)⟩
   have nb:∀o',(T4.tE o4 i c).od=some o'→¬(T4.tE o4 i c).mv≤bk o'.j x.hs:=fun o' ij=>by
    rw [oO]at ij
    obtain rfl:=bt ij
    rw [mO]
    show ¬to≤bk o4.j x.hs
    rw [bO];omega
   obtain⟨es,epk⟩:=U4 (T:=T4.tE o4 i c) nb (x::(T4.tE o4 i c).chain x.hs)
   have er:(s.fk x.e:Int)=(s4'.fk x.e:Int):=by rw [f4.fk]
   rw [show (lL (x::c))=x.e from rfl,er]
   refine ac6 tO hO (fun o' ij hm=>absurd hm (nb o' ij)) x1 x2 x3 (f4.da ZN) (f4.da hhk) eO.1 eO.2.1 eO.2.2 fun h5 q5 s5 GM f5 t5 v5=>⟨rfl,?_⟩
   obtain⟨y1,y2,y3,y4,y5,y6,y7,y8⟩:=(T4.tE o4 i c).zP x.hs (x::(T4.tE o4 i c).chain x.hs)
   obtain⟨r,p1,p2⟩:=cO.lS hO
   refine⟨c.length,by simp,q5,s5,GM,_,o4.fW i c,_,c,rfl,rfl,rfl,rfl,rfl,rfl,rfl,?_,f4.trans f5,t5,⟨y1.trans Df.t,y2.trans Df.df,y4.trans Df.nid,y5.trans Df.nj,by rw [es];exact oO,Df.CU,Df.oj,y3.trans mO,?_,fun y hy=>?_⟩,fun y hy=>?_⟩
   ·show (o4.cs.set i c)[i]?=_
    rw [cE (bp.1 hc4).1]
   ·refine((p2 _).trans ?_).trans (pO.symm.trans Df.lS)
    exact List.Perm.cons x p1.symm
   ·rw [TD.uN]at hy
    rcases bI.1 hy with hy|hy
    ·exact Df.dN y (sO y (bW _ hy))
    ·have hy:=(iT (((p2 (x::(T4.tE o4 i c).chain x.hs))).trans (List.Perm.cons x p1.symm))).mem_iff.1 hy
     rw [gS]at hy
     rcases ck.1 hy with rfl|hy
     ·exact Df.dN _ xe
     rcases ck.1 hy with rfl|hy
     ·exact Df.dN _ xk
     ·exact Df.dN y (sO y (bK _ hy))
   ·rw [v5,if_neg fun e=>hy (by rw [e];exact Df.dN _ (sO _ (cO.Bb x.hs))),if_neg fun e=>hy (by rw [e];exact Df.dN _ xe)]
    exact fr4 y hy
 ·obtain rfl:i=to:=by omega
  by_cases Fj:i=2 ^ o.j
  ·refine cr (by rw [beq_iff_eq,Fj]) (bw ⟨_,t3.l.c0,_,zN t3.g t3.l t3.pos t3.held ⟨rfl,rfl⟩,?_⟩)
   have tn3:=t3.c.tn
   have e0:(0:Int)=(s3'.fk 0:Int):=by rw [RS.iQ];rfl
   rw [e0]
   refine zu (wF.refl t3.g) tn3 t3.ht (.inl rfl) (k:=1) (by simp) rfl fun h5 q5 s5 GM f5 v5=>⟨_,rfl,?_⟩
   have n5:GM[T3.t]?=some ⟨4,[T3.nw.id,0],[T3.df,T.dc.length,T3.mv]⟩:=by rw [v5,if_pos rfl];rfl
   refine bw ⟨_,(t3.l.ex f5.ex).c0,_,zN (id:=T3.t) f5.g (t3.l.ex f5.ex) t3.pos (by rw [f5.rt];exact t3.held) ⟨rfl,rfl⟩,?_⟩
   have er:(s5.fk T3.t:Int)=(s3'.fk T3.t:Int):=by rw [←f5.fk]
   rw [er,RS.iQ]
   refine vO f5 n5 t3.ht (w:=0) (by omega) (k:=2) (by simp) rfl fun h6 q6 s6 Ob f6 v6=>⟨_,rfl,?_⟩
   obtain⟨c6,ee,es⟩:=t3.c.nA (gm:=Ob) st.od (by rw [st.oj];exact Fj) fun y=>by
    rw [v6,v5]
    by_cases e:y=T3.t
    ·rw [if_pos e,if_pos e];rfl
    ·rw [if_neg e,if_neg e,if_neg e]
   have le:({T3 with od:=none,mv:=0}:TD).dc.length=T.dc.length:=by rw [ee];exact st.lS.length_eq
   refine xK h6 q6 s6 Ob {T3 with od:=none,mv:=0} (by rw [ho];simp) (f3.trans f6) ⟨f6.g,t3.l.ex f6.ex,t3.pos,t3.lt,by rw [f6.rt];exact t3.held,⟨by rw [le];exact c6,nofun,⟨by show 2≤T3.nw.j;rw [st.nj];exact p.c.j2.1,nofun⟩⟩,t3.tz.ex f6.ex⟩ ?_ fun y hy=>?_
   ·refine⟨st.t,st.df,st.nid,st.nj,by rw [ee];exact st.lS,fun y hy=>st.dN y (es y hy),fun o' ij=>?_,fun e=>by rw [ho]at e;cases e⟩
    rw [ho]at ij
    obtain rfl:=bt ij
    rw [if_pos (by rw [hto]at Fj;split at Fj<;>omega)]
    exact⟨rfl,rfl⟩
   ·rw [v6,if_neg fun e=>hy (by rw [e,st.t];exact T.jO),v5,if_neg fun e=>hy (by rw [e,st.t];exact T.jO)];exact fr3 y hy
  ·refine cj (by rw [beq_eq_false_iff_ne];omega) ?_
   have fE:i<2 ^ o.j:=by omega
   have e16:i=T.mv+16:=by rw [hto];rw [hto]at fE;split at fE<;>rename_i hh<;>simp only [hh,if_true,if_false]<;>omega
   refine xK h3 q3 s3' SS T3 (by rw [ho];simp) f3 ⟨t3.g,t3.l,t3.pos,t3.lt,t3.held,⟨by rw [st.mv,st.lS.length_eq];exact t3.c,fun o' ij=>?_,⟨by rw [st.nj];exact p.c.j2.1,fun o' ij=>?_⟩⟩,t3.tz⟩ ?_ fr3
   ·rw [st.od]at ij
    obtain rfl:=bt ij
    rw [st.mv,st.oj];exact fE
   ·rw [st.od]at ij
    obtain rfl:=bt ij
    rw [st.oj];exact p.c.j2.2 o ho
   ·refine⟨st.t,st.df,st.nid,st.nj,st.lS,st.dN,fun o' ij=>?_,fun e=>by rw [ho]at e;cases e⟩
    rw [ho]at ij
    obtain rfl:=bt ij
    rw [if_neg (by omega)]
    exact⟨⟨o3,st.od,st.CU,st.oj⟩,st.mv.trans e16⟩
end
structure uB (h:Hp) (q:HQ) (s:RS) (nd:List di) (T:TD) (h':Hp) (q':HQ) (s':RS) (gm:List di) (T':TD):Prop where
 g:Gs h' q' s' gm
 n:qB nd T gm T'
 T5:wQ s'.bC s.bC
 agC:s'.bC.length≤max s.bC.length (rF s.bC+2)
 iN:s'.cM=s.cM
 ex:Ex h q h' q'
section
variable {h h' h2:Hp} {q q' q2:HQ} {s s' s2:RS} {nd gm lT:List di} {id tb hn:Nat} {T T' T2:TD} {R:RP} {lo n hs:Nat} {z:Option Nat} {a:Sl} {x:iM} {o:rI} {key:LN}
theorem uB.jp(a:uB h q s nd T h' q' s' gm T')(p:qA h q s nd tb hn T):qA h' q' s' gm tb hn T' :=
 ⟨a.g,p.l.ex a.ex,p.pos,p.lt,by rw [a.T5,a.n.t];exact p.held,a.n.c,p.tz.ex a.ex⟩
theorem uB.trans(a:uB h q s nd T h' q' s' gm T')(b:uB h' q' s' gm T' h2 q2 s2 lT T2):uB h q s nd T h2 q2 s2 lT T2:=by
 refine⟨b.g,a.n.trans b.n,b.T5.trans a.T5,?_,b.iN.trans a.iN,a.ex.trans b.ex⟩
 have h1:=a.agC;have h2:=b.agC
 rw [a6 a.T5]at h2;omega
theorem uB.cI(a:uB h q s nd T h' q' s' gm T')(k:bY N h' h2):uB h q s nd T h2 q' s' gm T' :=
 ⟨a.g.cI k,a.n,a.T5,a.agC,a.iN,a.ex.trans (Ex.pm k fun b hb=>a.g.st.fr hb)⟩
theorem uB.refl(p:qA h q s nd tb hn T):uB h q s nd T h q s nd T:=⟨p.g,qB.refl p.c,wQ.refl _,by omega,rfl,Ex.refl _ _⟩
theorem uB.ofN(p:qA h q s nd tb hn T)(k:bY N h h'):uB h q s nd T h' q s nd T:=(uB.refl p).cI k
theorem uB.fld(f:wF h q s nd h' q' s' gm)(n:qB nd T gm T'):uB h q s nd T h' q' s' gm T' :=
 ⟨f.g,n,by rw [f.rt];exact wQ.refl _,by rw [f.rt];omega,f.al.iN,f.ex⟩
theorem uB.gone(p:qA h q s nd tb hn T)(g:Gs h' q' s' nd)(er:s'.bC=s.bC)(el:s'.cM=s.cM)(ex:Ex h q h' q'):uB h q s nd T h' q' s' nd T :=
 ⟨g,qB.refl p.c,by rw [er];exact wQ.refl _,by rw [er];omega,el,ex⟩
theorem Stepped.sn(st:Stepped T T'):T'.sE=tM T.sE:=by
 cases ho:T.od with
 |none =>
  rw [st.sh0 ho]
  unfold tM
  rw [if_pos (IJ.2 ho)]
 |some o =>
  have h:=st.sh o ho
  have hp:=two_pos o.j
  rw [sL ho]
  unfold tM
  dsimp only
  rw [if_neg (by omega)]
  by_cases hc:2 ^ o.j≤T.mv+16
  ·rw [if_pos hc]at h ⊢
   rw [uM h.1,h.2,st.nj]
  ·rw [if_neg hc]at h ⊢
   obtain⟨⟨o',h1,h2,h3⟩,h4⟩:=h
   rw [sL h1,h3,h4,st.nj]
theorem NA(p:qA h q s nd tb hn T)(hR:∀h' q' s' gm T' b,uB h q s nd T h' q' s' gm T'→Stepped T T'→b=!decide (T.sE.2.1=0)→wF h q s nd h' q' s' gm→R (vb b) h') :
  bq PG 47 #[vp (sa tb)] h R:=by
 refine akm p (fun ho=>?_) fun h' q' s' gm T' iS f o st fr=>?_
 ·refine hR h q s nd T false (uB.refl p) ⟨rfl,rfl,rfl,rfl,fT _,fun _ h=>h,fun o' ij=>?_,fun _=>rfl⟩ ?_ (wF.refl p.g)
  ·rw [ho]at ij;cases ij
  ·rw [decide_eq_true (IJ.2 ho)];rfl
 ·refine hR h' q' s' gm T' true (uB.fld f ⟨o.c,st.t,st.df,by rw [f.len];exact bH _,fun x _ hx=>fr x hx,fun x hx=>.inl (st.dN x hx)⟩) st ?_ f
  rw [decide_eq_false fun h=>iS (IJ.1 h)];rfl
structure Iu (iN:Nat) (nd:List di) (bC:List (Option Nat)) (T:TD) (j:Nat) (gm:List di) (T':TD):Prop where
 n:qB nd T gm T'
 lS:T'.dc.Perm T.dc
 was:T.od≠none→T'.sE=T.sE
 L0:T.od=none→T'.sE=T.sE→NRm iN nd bC (1+2 ^ j)
 anw:T'.sE=T.sE→T'=T∧gm=nd
 room:T.od=none→T'.sE≠T.sE→T'.sE=(2 ^ j,2 ^ T.nw.j,0)∧Rm iN nd bC (1+2 ^ j)∧T'.dN.Perm (nd.length::T.dN)∧T'.nw.id=nd.length
theorem UG(p:qA h q s nd tb hn T){j:Nat}(hj:2≤j)(hj2:j≤20)
  (hR:∀h' q' s' gm T',Gs h' q' s' gm→Iu s.cM nd s.bC T j gm T'→s'.bC=s.bC→s'.cM=s.cM→Ex h q h' q'→R (vt #[]) h') :
  bq PG 97 #[vp (sa tb),vi ((2 ^ j:Nat):Int)] h R:=by
 have h2:=o7 hj2
 refine abF ?_
 unfold anC
 refine Ea p.tr (k:=1) rfl rfl ⟨_,rfl,?_⟩
 cases ho:T.od with
 |some o =>
  rw [TD.qV ho]
  have hh:=p.da (TD.rG ho)
  refine cr (by rw [bne_iff_ne];have:=RS.un p.g.v hh;show (s.fk o.id:Int)≠0;omega) (hR h q s nd T p.g ⟨qB.refl p.c,fT _,fun _=>rfl,fun e=>(by rw [ho]at e;cases e),fun _=>⟨rfl,rfl⟩,fun e=>by rw [ho]at e;cases e⟩ rfl rfl (Ex.refl _ _))
 |none =>
  refine cj (by rw [TD.uV ho,RS.iQ];rfl) (bw ⟨_,p.l.c0,?_⟩)
  refine A7 p.g (k:=5) (r:=2 ^ j) (w:=0) ⟨⟨by omega,by omega⟩,⟨by omega,by omega⟩,by omega,by omega⟩ rfl rfl rfl (fun h1 q1 s1 g1 er el ex hr=>?_) fun h1 q1 s1 g1 er el ZO ex hr=>?_
  ·refine⟨_,_,rfl,cr rfl (hR h1 q1 s1 nd T g1 ⟨qB.refl p.c,fT _,fun _=>rfl,fun _ _ dN lv z=>hr ((p.g.room lv _ 0).2 ?_),fun _=>⟨rfl,rfl⟩,fun _ h=>absurd rfl h⟩ er el ex)⟩
   exact z
  ·refine⟨_,_,rfl,cj rfl ?_⟩
   have p1:qA h1 q1 s1 nd tb hn T→True:=fun _=>trivial
   have l1:=p.l.ex ex
   have at0:(nd++[(⟨5,List.replicate (2 ^ j) 0,List.replicate 0 0⟩:di)])[nd.length]?=some ⟨5,List.replicate (2 ^ j) 0,[]⟩:=by
    rw [bN (bH _),dD];rfl
   have lts:∀i∈T.dN,i<nd.length:=fun i hi=>p.g.lt (p.da hi)
   have nin:nd.length∉T.dN:=fun hm=>by have:=lts _ hm;omega
   have Tw:∀i∈T.dN,(nd++[(⟨5,List.replicate (2 ^ j) 0,List.replicate 0 0⟩:di)])[i]?=nd[i]?:=fun i hi=>bL (lts i hi)
   have t1:qA h1 q1 s1 (nd++[(⟨5,List.replicate (2 ^ j) 0,List.replicate 0 0⟩:di)]) tb hn T :=
    ⟨g1,l1,p.pos,p.lt,by rw [er];exact p.held,p.c.eG Tw,p.tz.ex ex⟩
   have ht:=t1.da T.jO
   have Q5:=t1.da T.nU
   refine bw ⟨_,l1.c0,_,zN g1 l1 p.pos t1.held ⟨rfl,rfl⟩,?_⟩
   refine Ea t1.tr (k:=0) rfl rfl ⟨_,rfl,⟨_,l1.c0,rfl⟩,?_⟩
   refine zu (wF.refl g1) t1.c.g.tn ht (.inr Q5) (k:=1) (by simp) rfl fun ha qa sa nda fa va=>⟨_,rfl,?_⟩
   have na:nda[T.t]?=some ⟨4,[T.nw.id,T.nw.id],[T.df,T.dc.length,T.mv]⟩:=by rw [va,if_pos rfl];rfl
   have la:=l1.ex fa.ex
   refine bw ⟨_,la.c0,_,zN (id:=T.t) fa.g la p.pos (by rw [fa.rt];exact t1.held) ⟨rfl,rfl⟩,?_⟩
   rw [←fa.fk T.t]
   refine zu fa na ht (.inr ZO) (k:=0) (by simp) rfl fun hb qb sb ndb fb xm=>⟨_,rfl,?_⟩
   have nb2:ndb[T.t]?=some ⟨4,[nd.length,T.nw.id],[T.df,T.dc.length,T.mv]⟩:=by rw [xm,if_pos rfl];rfl
   have lb:=l1.ex fb.ex
   refine bw ⟨_,lb.c0,_,zN (id:=T.t) fb.g lb p.pos (by rw [fb.rt];exact t1.held) ⟨rfl,rfl⟩,?_⟩
   rw [←fb.fk T.t]
   refine vO fb nb2 ht (w:=0) (by omega) (k:=2) (by simp) rfl fun hc qc sc T7 fc vc=>⟨_,rfl,?_⟩
   have hv:∀i,T7[i]?=if i=T.t then some ⟨4,[nd.length,T.nw.id],[T.df,T.dc.length,0]⟩else(nd++[(⟨5,List.replicate (2 ^ j) 0,List.replicate 0 0⟩:di)])[i]?:=fun i=>by
    rw [vc,xm,va]
    by_cases e:i=T.t
    ·rw [if_pos e,if_pos e];rfl
    ·rw [if_neg e,if_neg e,if_neg e,if_neg e]
   obtain⟨c6,ee,ep⟩:=p.c.g.start ho hj2 nin (by have:=p.g.pos;omega) (gm:=T7) fun i hi=>by
    rw [hv]
    by_cases e:i=T.t
    ·rw [if_pos e,if_pos e]
    ·rw [if_neg e,if_neg e]
     rcases hi with hi|rfl
     ·rw [if_neg fun e=>nin (by rw [←e];exact hi)];exact Tw i hi
     ·rw [if_pos rfl];exact at0
   have azo:T7.length=nd.length+1:=by rw [fc.len];simp
   have UZ:({T with nw:=⟨nd.length,j,List.replicate (2 ^ j) []⟩,od:=some T.nw,mv:=0}:TD).sE=(2 ^ j,2 ^ T.nw.j,0):=sL rfl
   have akZ:({T with nw:=⟨nd.length,j,List.replicate (2 ^ j) []⟩,od:=some T.nw,mv:=0}:TD).sE≠T.sE:=by
    rw [UZ,uM ho]
    intro e
    have:=congrArg (fun z=>z.2.1) e
    have hp:=two_pos T.nw.j
    simp at this
   refine hR hc qc sc T7 {T with nw:=⟨nd.length,j,List.replicate (2 ^ j) []⟩,od:=some T.nw,mv:=0} fc.g ⟨⟨⟨by rw [ee];exact c6,fun o' ij=>?_,⟨hj,fun o' ij=>?_⟩⟩,rfl,rfl,by omega,fun i hi hn=>?_,fun i hi=>?_⟩,by rw [ee],fun h=>absurd ho h,fun _ h=>absurd h akZ,fun h=>absurd h akZ,fun _ _=>⟨UZ,fun dN lv=>(p.g.room lv _ 0).1 hr,ep,rfl⟩⟩ (by rw [fc.rt,er]) (fc.al.iN.trans el) (ex.trans fc.ex)
   ·obtain rfl:=bt (show some T.nw=some o' from ij)
    exact two_pos _
   ·obtain rfl:=bt (show some T.nw=some o' from ij)
    exact p.c.j2.1
   ·rw [hv,if_neg fun e=>hn (by rw [e];exact T.jO),bL hi]
   ·rcases ck.1 (ep.mem_iff.1 hi)with rfl|hi
    ·exact .inr (bH _)
    ·exact .inl hi
theorem Z4(o:TR h q s nd tb hn T lo z n)(Ud:n<9223372036854775808)(hR:R (vi (n:Nat)) h):bq PG 24 #[vp (sa tb)] h R:=by
 refine Jq ?_
 unfold acq
 refine D9 o (k:=1) rfl rfl ⟨_,rfl,?_⟩
 rw [bU (by omega) (by omega)];exact hR
theorem ac5(x:Gs h q s nd)(l:ti h q tb 0)(hR:R (vi 0) h):bq PG 24 #[vp (sa tb)] h R:=by
 refine Jq ?_
 unfold acq
 exact ac4 x l ⟨_,rfl,hR⟩
theorem qA.len(p:qA h q s nd tb hn T):T.dc.length≤2097152:=by
 have hd:=p.c.g.uo.2.1
 have h1:(T.dc.map (·.e)).Nodup:=by
  have:∀l:List iM,(iX l).Nodup→(l.map (·.e)).Nodup:=fun l=>by
   induction l with
   |nil=>exact fun _=>gQ
   |cons x l ih =>
    intro h
    rw [gS,cV,cV]at h
    rw [cU,cV]
    refine⟨fun hm=>?_,ih h.2.2⟩
    obtain⟨y,hy,e⟩:=cy.1 hm
    exact h.1 (bJ _ (e▸fJ hy))
  exact this _ hd
 have:=RS.Oy p.g.v h1 fun i hi=>by
  obtain⟨y,hy,rfl⟩:=cy.1 hi
  exact p.da (TD.pq hy)
 rwa [bA]at this
def TD.Bz(T:TD)(key:LN):Option iM:=T.dc.find? fun x=>decide (x.key=key)
theorem pz(h:T.Bz key=some x):x∈T.dc∧x.key=key:=⟨ip h,by have:=ox h;simpa using this⟩
theorem FV(h:T.Bz key=none):∀x∈T.dc,x.key≠key:=fun x hx=>by have:=mu.1 h x hx;simpa using this
theorem PU(k:oH T)(hx:x∈T.dc)(e:x.key=key):T.Bz key=some x:=by
 cases h:T.Bz key with
 |none=>exact absurd e (FV h x hx)
 |some y=>obtain⟨h1,h2⟩:=pz h;rw [k.aqq h1 hx (h2.trans e.symm)]
theorem ND(p:qA h q s nd tb hn T)(k:oH T)(rk:dZ h a.a (key.map bv)) (na:a.n=key.length) (b8:fK key)
  (wX:T.Bz key=none→∀h' r i,bY N h h'→R (vt #[uv r,vi i,uv 0]) h')
  (xK:∀pr e c h',T.Bz key=some e→T.chain e.hs=pr++e::c→e.hs=fU T.df key→bY N h h'→R (vt #[uv (s.fk (lW (T.pick e.hs) (T.pX e.hs) pr).1),vi ((lW (T.pick e.hs) (T.pX e.hs) pr).2:Nat),uv (s.fk e.e)]) h') :
  bq PG 67 #[vp (sa tb),uv (fU T.df key),.slice a.a a.n a.c] h R:=by
 have hl:=Bi T.df key
 refine akx p rk na b8 hl (fun hn=>wX ?_) fun pr e c h' hc he hk=>?_
 ·cases hf:T.Bz key with
  |none=>rfl
  |some y =>
   obtain⟨h1,h2⟩:=pz hf
   have e1:=k.hk y h1
   rw [h2]at e1
   have:=p.c.g.By h1
   rw [e1]at this
   exact absurd ⟨e1,h2⟩ (hn y this)
 ·have hm:e∈T.dc:=p.c.g.lu hl (by rw [hc];simp)
  rw [←he]at hc ⊢
  exact xK pr e c h' (PU k hm hk) hc (by rw [k.hk e hm,hk])
theorem qA.Kw(p:qA h q s nd tb hn T)(hx:x∈T.dc):x.r=0∨s.da x.r:=by
 obtain⟨n,hn⟩:=(p.c.g.TZ (p.c.g.hs x hx)).1.Uj (p.c.g.By hx)
 exact RS.C3 p.g.v p.g.sh hn.1 (p.da (TD.pq hx)) (by unfold iM.node;simp)
theorem ac7(p:qA h q s nd tb hn T)(k:oH T)(rk:dZ h a.a (key.map bv)) (na:a.n=key.length) (b8:fK key) (hl:key.length≤140737488351232)
  (wX:T.Bz key=none→∀h',bY N h h'→R (vt #[uv 0,uv 0,uv 0,vi 63]) h')
  (xK:∀e h',T.Bz key=some e→bY N h h'→R (vt #[uv (s.fk e.r),uv e.a,uv e.b,vi 0]) h') :
  bq PG 28 #[vp (sa tb),.slice a.a a.n a.c] h R:=by
 refine RB ?_
 unfold air
 have:=p.pos
 refine bw ⟨_,p.l.c1,cj (by rw [beq_eq_false_iff_ne];omega) (D9 p.tr (k:=0) rfl rfl ⟨_,rfl,Ut rk na b8 hl k.sd fun h1 k1=>⟨_,rfl,?_⟩⟩)⟩
 have p1:=p.cI k1
 refine ND p1 k (fC k1 rk) na b8 (fun hf h2 r i k2=>⟨_,_,_,rfl,cr rfl (wX hf h2 (cL k1 k2 fun _ z=>z.elim))⟩) fun pr e c h2 hf hc he k2=>⟨_,_,_,rfl,?_⟩
 have p2:=p1.cI k2
 have hm:=(pz hf).1
 obtain⟨n,GY⟩:=(p2.c.g.TZ (p2.c.g.hs e hm)).1.Uj (p2.c.g.By hm)
 have hh:=p2.da (TD.pq hm)
 refine cj (by rw [beq_eq_false_iff_ne];have:=RS.un p2.g.v hh;omega) ?_
 exact F9 p2.g p2.l GY.1 hh (k:=2) rfl rfl ⟨_,rfl,Ec p2.g p2.l GY.1 hh (k:=1) rfl rfl ⟨_,rfl,Ec p2.g p2.l GY.1 hh (k:=2) rfl rfl ⟨_,rfl,xK e h2 hf (cL k1 k2 fun _ z=>z.elim)⟩⟩⟩
end
section
variable {h h' h2:Hp} {q q':HQ} {s s':RS} {nd gm:List di} {m:di} {id tb hn:Nat} {T T1 T':TD} {R:RP} {n hs:Nat} {z:Option Nat} {a:Sl} {x:iM} {o:rI} {key:LN}
theorem Na(k:oH T)(hs:T'.df=T.df)(p:T'.dc.Perm T.dc)(key:LN):T'.Bz key=T.Bz key:=by
 cases h:T.Bz key with
 |none =>
  cases h':T'.Bz key with
  |none=>rfl
  |some y=>obtain⟨h1,h2⟩:=pz h';exact absurd h2 (FV h y (p.mem_iff.1 h1))
 |some y =>
  obtain⟨h1,h2⟩:=pz h
  exact PU (k.lS hs p) (p.mem_iff.2 h1) h2
theorem af8(x:Gs h q s nd)(l:ti h q tb hn)(hp:1≤hn)(hd:s.bC.getD (hn-1) none=some id) (hm:nd[id]?=some m) (hh:s.da id) {k w:Nat} (hk:m.cN[k]?=some w) {i:Int} (hi:i=((m.cY.length+k:Nat):Int)) (hR:R (uv w) h) :
  bq PG 61 #[vp (sa tb),vi i] h R:=by
 refine DM ?_
 unfold Xd
 exact zN x l hp hd ⟨_,rfl,Ec x l hm hh hk hi ⟨_,rfl,hR⟩⟩
theorem akt(x:Gs h q s nd)(l:ti h q tb hn)(hp:1≤hn)(hd:s.bC.getD (hn-1) none=some id) (hm:nd[id]?=some m) (hh:s.da id) (h2:m.cY.length=2) {w:Nat} (hk:m.cN[1]?=some w) (hw:w<9223372036854775808) (hR:R (vi (w:Nat)) h) :
  bq PG 24 #[vp (sa tb)] h R:=by
 refine Jq ?_
 unfold acq
 refine af8 x l hp hd hm hh hk (by rw [h2];rfl) ⟨_,rfl,?_⟩
 rw [bU (by omega) (by omega)];exact hR
def Nk(c:Prop)[Decidable c] (iN:Nat) (nd:List di) (bC:List (Option Nat)) (T:TD) (j:Nat) (gm:List di) (T':TD):Prop:=if c then Iu iN nd bC T j gm T' else T'=T∧gm=nd
theorem Nk.HS {c:Prop}[Decidable c] {iN:Nat} {bC:List (Option Nat)} {j:Nat} (b:Nk c iN nd bC T j gm T') (ok:yT nd T):qB nd T gm T'∧T'.dc.Perm T.dc:=by
 unfold Nk at b
 split at b
 ·exact⟨b.n,b.lS⟩
 ·obtain⟨rfl,rfl⟩:=b;exact⟨qB.refl ok,fT _⟩
theorem NM(T:TD)(h:Nat)(c:List iM):(T.fW h c).sE=T.sE:=by
 unfold TD.sE TD.fW
 cases ho:T.od with
 |none=>rfl
 |some o =>
  dsimp only
  by_cases hm:T.mv≤bk o.j h
  ·rw [if_pos hm];rfl
  ·rw [if_neg hm];rfl
theorem IN(T:TD)(h:Nat)(c:List iM)(ok:2≤T.nw.j∧∀o,T.od=some o→2≤o.j)(mv:∀o,T.od=some o→T.mv<2 ^ o.j):
  (2≤(T.fW h c).nw.j∧∀o,(T.fW h c).od=some o→2≤o.j)∧∀o,(T.fW h c).od=some o→(T.fW h c).mv<2 ^ o.j:=by
 unfold TD.fW
 cases ho:T.od with
 |none=>exact⟨⟨ok.1,nofun⟩,nofun⟩
 |some o =>
  dsimp only
  by_cases hm:T.mv≤bk o.j h
  ·rw [if_pos hm]
   refine⟨⟨ok.1,fun o' ij=>?_⟩,fun o' ij=>?_⟩
   ·obtain rfl:=bt (show some (o.fW _ c)=some o' from ij);exact ok.2 o ho
   ·obtain rfl:=bt (show some (o.fW _ c)=some o' from ij);exact mv o ho
  ·rw [if_neg hm]
   refine⟨⟨ok.1,fun o' ij=>?_⟩,fun o' ij=>?_⟩
   ·have ij:some o=some o':=ij;exact ok.2 o' (ho.trans ij)
   ·have ij:some o=some o':=ij;exact mv o' (ho.trans ij)
theorem Z7(p:qA h q s nd tb hn T)(k:oH T)(rk:dZ h a.a (key.map bv)) (na:a.n=key.length) (b8:fK key) (hl:key.length≤140737488351232)
  (rs:∀pp,a.a=some pp→key≠[]→q.bR pp.block=.out∧pp.block<h.size)
  (amK:∀h' q' s' gm T1,T.Bz key=none→uB h q s nd T h' q' s' gm T1→Stepped T T1→R (vi 63) h')
  (vV:∀e r h' q' s' kq T1 gm T',T.Bz key=some e→qB nd T kq T1→T.dc.Perm (e::r)→T1.dc.Perm r→T1.sE=tM T.sE →
   Nk (4<2 ^ T1.nw.j∧4*T1.dc.length<2 ^ T1.nw.j) s.cM kq s.bC T1 (T1.nw.j-1) gm T'→uB h q s nd T h' q' s' gm T'→R (vi 0) h') :
  bq PG 49 #[vp (sa tb),.slice a.a a.n a.c] h R:=by
 refine Rs ?_
 unfold aik
 have wW:=p.pos
 refine bw ⟨_,p.l.c1,cj (by rw [beq_eq_false_iff_ne];omega) (NA p fun h1 q1 s1 kq T1 b1 a1 st _ f1=>⟨_,rfl,?_⟩)⟩
 have p1:=a1.jp p
 have k1:=k.lS st.df st.lS
 have rk1:dZ h1 a.a (key.map bv):=tU a1.ex.gK rk fun pp hp hn=>(have Tc:key≠[]:=fun z=>hn (by rw [z];rfl);⟨(rs pp hp Tc).2,fun hx=>hx (rs pp hp Tc).1⟩)
 refine D9 p1.tr (k:=0) rfl rfl ⟨_,rfl,?_⟩
 refine Ut rk1 na b8 hl k1.sd fun h2 kk=>⟨_,rfl,?_⟩
 have p2:=p1.cI kk
 have ef:=Na k st.df st.lS key
 refine ND p2 k1 (fC kk rk1) na b8 (fun hf h3 r i Kk=>⟨_,_,_,rfl,cr rfl (amK h3 q1 s1 kq T1 (by rw [←ef];exact hf) (a1.cI (cL kk Kk fun _ z=>z.elim)) st)⟩) fun pr e c h3 hf hc he Kk=>⟨_,_,_,rfl,?_⟩
 have p3:=p2.cI Kk
 have a3:=a1.cI (cL kk Kk fun _ z=>z.elim)
 have f3:wF h q s nd h3 q1 s1 kq:=⟨p3.g,f1.al,f1.rt,a3.ex,f1.len⟩
 have hm:=(pz hf).1
 have Do:=p3.c.g.hs e hm
 have hse:=(p3.c.g.TZ Do).1
 rw [hc]at hse
 obtain⟨GY,hkn,ok⟩:=(ou.1 hse).2.1
 have ZN:=p3.da (TD.pq hm)
 refine cj (by rw [beq_eq_false_iff_ne];have:=RS.un p3.g.v ZN;omega) (bw ⟨_,p3.l.c0,F9 p3.g p3.l GY ZN (k:=0) rfl rfl ⟨_,rfl,⟨_,p3.l.c0,rfl⟩,?_⟩⟩)
 obtain⟨mm,hmm,hmr,hmi⟩:=p3.c.Je Do hc
 obtain⟨mm2,aAi,aAg,_⟩:=p3.c.Je Do (p:=pr++[e]) (r:=c) (by rw [hc];simp)
 have hnx:lL c=0∨s1.da (lL c):=by
  cases c with
  |nil=>exact .inl rfl
  |cons y c=>exact .inr (p3.da (TD.pq (p3.c.g.lu Do (by rw [hc];simp))))
 have fE:=(bp.1 hmr).1
 refine zu (wF.refl p3.g) hmm (p3.da hmi) hnx fE rfl fun h4 q4 s4 nd4 f4 v4=>⟨_,rfl,?_⟩
 have ht:=p3.da T1.jO
 have hht:(lW (T1.pick e.hs) (T1.pX e.hs) pr).1≠T1.t:=by
  rcases tW pr with rfl|⟨pr,y,rfl⟩
  ·exact p3.c.g.n_t e.hs
  ·rw [jM]
   exact(p3.c.g.Kn (fJ (p3.c.g.lu Do (x:=y) (by rw [hc];simp)))).1
 have tn4:nd4[T1.t]?=some ⟨4,[T1.nw.id,T1.CU],[T1.df,T1.dc.length,T1.mv]⟩:=by rw [v4,if_neg (Ne.symm hht)];exact p3.c.g.tn
 have l4:=p3.l.ex f4.ex
 have o0:=p3.len
 have hd4:s4.bC.getD (hn-1) none=some T1.t:=by rw [f4.rt];exact p3.held
 refine akt f4.g l4 p3.pos hd4 tn4 (f4.da ht) rfl rfl (by omega) ⟨_,rfl,bw ⟨_,l4.c0,_,zN f4.g l4 p3.pos hd4 ⟨rfl,rfl⟩,?_⟩⟩
 obtain⟨r,pm1,pm2⟩:=p3.c.g.lS Do
 have aww:1≤T1.dc.length:=pL hm
 have ew:wrap .u64 (wrap .i64 ((T1.dc.length:Int)-1))=((T1.dc.length-1:Nat):Int):=by rw [bU (by omega) (by omega),eN (by omega) (by omega)];omega
 have ew2:wrap .i64 ((T1.dc.length:Int)-1)=((T1.dc.length-1:Nat):Int):=by rw [bU (by omega) (by omega)];omega
 rw [ew,ew2,←f4.fk T1.t]
 refine vO f4 tn4 ht (w:=T1.dc.length-1) (by omega) (k:=1) (by simp) rfl fun h5 q5 s5 GM f5 v5=>⟨_,rfl,?_⟩
 obtain⟨y1,y2,y3,y4,y5,y6,y7,y8⟩:=T1.zP e.hs (pr++c)
 have hv:∀i,GM[i]?=if i=(lW (T1.pick e.hs) (T1.pX e.hs) pr).1 then(match pr.getLast? with|none=>some ⟨5,((T1.pick e.hs).cs.map lL).set (T1.pX e.hs) (lL c),[]⟩|some y=>some (y.node (lL c)))
   else if i=T1.t then some ⟨4,[T1.nw.id,T1.CU],[T1.df,T1.dc.length-1,T1.mv]⟩else kq[i]?:=fun i=>by
  rw [v5,v4]
  by_cases e1:i=(lW (T1.pick e.hs) (T1.pX e.hs) pr).1
  ·rw [if_neg (by rw [e1];exact hht),if_pos e1,if_pos e1]
   rcases tW pr with rfl|⟨pr,y,rfl⟩
   ·have pn:=p3.c.g.HD e.hs fun _ _ _=>rfl
    have amP:kq[(T1.pick e.hs).id]?=some mm:=hmm
    rw [pn]at amP
    obtain rfl:=bt amP
    rfl
   ·rw [jM]at hmm ⊢
    have hsy:=(p3.c.g.TZ Do).1
    rw [hc,ce]at hsy
    have hy:=(ou.1 hsy).2.1.1
    rw [hy]at hmm
    obtain rfl:=bt hmm
    simp [iM.node]
  ·by_cases e2:i=T1.t
   ·rw [if_pos e2,if_neg e1,if_pos e2];rfl
   ·rw [if_neg e2,if_neg e1,if_neg e1,if_neg e2]
 have c5:=p3.c.g.cut Do hc hv
 have SJ:T1.dc.Perm (e::((pr++c)++r)):=by
  rw [hc]at pm1
  refine pm1.trans ?_
  rw [ce,ce]
  exact gT
 have pm5:=pm2 (pr++c)
 have el5:(T1.fW e.hs (pr++c)).dc.length=T1.dc.length-1:=by rw [pm5.length_eq,SJ.length_eq];simp
 obtain⟨j5,m5⟩:=IN T1 e.hs (pr++c) p3.c.j2 p3.c.mv
 have ahs:∀i∈(T1.fW e.hs (pr++c)).dN,i∈T1.dN:=fun i hi=>by
  rw [T1.uN]at hi
  rcases bI.1 hi with hi|hi
  ·exact bW _ hi
  ·refine bK _ ((iT SJ).mem_iff.2 ?_)
   rw [gS]
   exact bJ _ (bJ _ ((iT pm5).mem_iff.1 hi))
 have ok5:yT GM (T1.fW e.hs (pr++c)):=⟨by rw [y3,el5];exact c5,m5,j5⟩
 have n5:qB kq T1 GM (T1.fW e.hs (pr++c)):=by
  refine⟨ok5,y1,y2,by rw [f5.len];exact bH _,fun i _ hi=>?_,fun i hi=>.inl (ahs i hi)⟩
  rw [v5,if_neg fun e1=>hi (by rw [e1];exact T1.jO),v4,if_neg fun e1=>hi (by rw [e1];exact hmi)]
 have f05:=f3.trans f5
 have p5:qA h5 q5 s5 GM tb hn (T1.fW e.hs (pr++c)):=⟨f5.g,p3.l.ex f5.ex,p3.pos,p3.lt,by rw [f5.rt,y1];exact p3.held,ok5,p3.tz.ex f5.ex⟩
 have a5:uB h q s nd T h5 q5 s5 GM (T1.fW e.hs (pr++c)):=uB.fld f05 (a1.n.trans n5)
 have aoA:T.dc.Perm (e::((pr++c)++r)):=st.lS.symm.trans SJ
 have sh5:(T1.fW e.hs (pr++c)).sE=tM T.sE:=(NM T1 e.hs _).trans st.sn
 have hfT:T.Bz key=some e:=by rw [←ef];exact hf
 refine Ea p5.tr (k:=0) rfl rfl ⟨_,rfl,zh p5.g p5.l p5.c.g.wn (p5.da (TD.nU _)) ⟨_,rfl,?_⟩⟩
 have en:(di.mk 5 ((T1.fW e.hs (pr++c)).nw.cs.map lL) []).cY.length=2 ^ (T1.fW e.hs (pr++c)).nw.j:=p5.tr.K2
 rw [en]
 have jn:=p5.c.g.jn
 have h2j:=o7 jn
 obtain⟨j',hj'⟩:∃j',(T1.fW e.hs (pr++c)).nw.j=j'+1:=⟨(T1.fW e.hs (pr++c)).nw.j-1,by have:=p5.c.j2.1;omega⟩
 have abq:=fun h6 q6 s6 Ob T6 hE hA=>vV e ((pr++c)++r) h6 q6 s6 GM (T1.fW e.hs (pr++c)) Ob T6 hfT (a1.n.trans n5) aoA pm5 sh5 hE hA
 generalize hTT:T1.fW e.hs (pr++c)=TT at *
 have eG:∀b:Bool,(b=true→4<2 ^ TT.nw.j∧4*TT.dc.length<2 ^ TT.nw.j)→(b=false→¬(4<2 ^ TT.nw.j∧4*TT.dc.length<2 ^ TT.nw.j))→Rr (sa tb) ((2 ^ TT.nw.j:Nat):Int) b h5 R:=fun b Tj vW=>by
  unfold Rr
  refine fY (fun hb=>⟨by omega,?_⟩) fun hb=>?_
  ·have Tj:=Tj hb
   have e2:wrap .i64 (Int.tdiv ((2 ^ TT.nw.j:Nat):Int) 2)=((2 ^ j':Nat):Int):=by
    rw [hj']at h2j ⊢
    rw [mr]at h2j ⊢
    generalize 2 ^ j'=y at *
    rw [yw (by omega),bU (by omega) (by omega)];omega
   rw [e2]
   have Rb:2≤j':=by
    rcases eS j' 2 with Fe|h
    ·have:=Tj.1
     rw [hj']at this
     have h4:(2:Nat) ^ (j'+1)≤2 ^ 2:=fQ (by omega) (by omega)
     omega
    ·exact h
   refine UG p5 Rb (by omega) fun h6 q6 s6 Ob T6 g6 B er el ex=>⟨rfl,abq h6 q6 s6 Ob T6 ?_ ?_⟩
   ·unfold Nk
    rw [if_pos Tj,show TT.nw.j-1=j' by omega,←f05.rt,←f05.al.iN]
    exact B
   ·exact⟨g6,a5.n.trans B.n,by rw [er];exact a5.T5,by rw [er];exact a5.agC,el.trans a5.iN,a5.ex.trans ex⟩
  ·refine abq h5 q5 s5 GM TT ?_ a5
   unfold Nk
   rw [if_neg (vW hb)]
   exact⟨rfl,rfl⟩
 have e4:wrap .i64 ((4:Int)*((T1.dc.length-1:Nat):Int))=((4*TT.dc.length:Nat):Int):=by rw [bU (by omega) (by omega),el5];omega
 rw [e4]
 refine ca (fun Ue=>?_) fun uc=>?_
 ·have Ue:4<2 ^ TT.nw.j:=by generalize 2 ^ TT.nw.j=y at *;omega
  refine eG _ (fun hb=>⟨Ue,?_⟩) fun hb=>?_
  ·have:=of_decide_eq_true hb;generalize 2 ^ TT.nw.j=y at *;omega
  ·have:=of_decide_eq_false hb;intro z;have:=z.2;generalize 2 ^ TT.nw.j=y at *;omega
 ·have uc:¬4<2 ^ TT.nw.j:=by generalize 2 ^ TT.nw.j=y at *;omega
  exact eG false (fun hb=>by cases hb) fun _ z=>uc z.1
theorem Ix(l:ti h q tb 0)(hR:R (vi 61) h):bq PG 49 #[vp (sa tb),.slice a.a a.n a.c] h R:=by
 refine Rs ?_
 unfold aik
 exact bw ⟨_,l.c1,cr rfl hR⟩
end
section
variable {h h' h2:Hp} {q q' q2:HQ} {s s' s2:RS} {nd gm lT:List di} {m:di} {id tb hn:Nat} {T T1 T' T2:TD} {R:RP} {n hs v:Nat} {z:Option Nat} {a:Sl} {x x':iM} {key:LN}
theorem qA.QT(p:qA h q s nd tb hn T):hn-1≠RS.dV s.bC:=fun e=>by
 have:=p.held
 rw [e,nO]at this
 cases this
theorem EY {f:Nat→Nat}:∀ {l:LN} {x:Nat},x∈l→f x≤(l.map f).sum
 | [],_,h=>by cases h
 |y::l,x,h=>by
  rw [cU,f8]
  rcases ck.1 h with rfl|h
  ·omega
  ·have:=EY (f:=f) h;omega
theorem RS.UW(v:s.Inv)(h:s.da id):s.size id+1≤1048576:=by
 rcases h with h|⟨h0,h1⟩
 ·have:=(v.sm id h).2.2.2.1;omega
 ·have h3:=EY (f:=fun id=>if id=0 then 0 else s.size id+1) h1
  rw [←v.lg]at h3
  have h3:(if id=0 then 0 else s.size id+1)≤s.dI:=h3
  rw [if_neg h0]at h3
  have:=v.h2;have:=v.l2
  omega
theorem qA.j19(p:qA h q s nd tb hn T):T.nw.j+1≤20:=by
 have hh:=p.da T.nU
 have e:=RS.IH p.g.v p.g.sh hh
 have h1:=RS.UW p.g.v hh
 unfold RS.qf at e
 rw [p.c.g.wn]at e
 have e2:(((some (⟨5,T.nw.cs.map lL,[]⟩:di)).getD ⟨0,[],[]⟩).sz)=1+2 ^ T.nw.j:=by
  show 1+(T.nw.cs.map lL).length+0=_
  rw [p.tr.K2]
  rfl
 rw [e2]at e
 rcases eS (T.nw.j) 20 with h|h
 ·omega
 ·have h4:(2:Nat) ^ 20≤2 ^ T.nw.j:=fQ (by omega) h
  have h5:(2:Nat) ^ 20=1048576:=by decide
  omega
theorem qA.acR(p:qA h q s nd tb hn T)(g:Gs h' q' s' nd)(er:s'.bC=ix s.bC v)(ex:Ex h q h' q'):qA h' q' s' nd tb hn T :=
 ⟨g,p.l.ex ex,p.pos,p.lt,by rw [er,kK,if_neg p.QT];exact p.held,p.c,p.tz.ex ex⟩
theorem MV {l:List (Option Nat)} (r:List (Option Nat)) (h:wQ r (ix l v)):wQ (r.set (RS.dV l) none) l :=
 wQ.back fun j=>by rw [h,kK]
theorem Sh(l:ti h q tb 0){r w1 w2:Int}(hR:R (vt #[vb false,vi 61]) h):bq PG 48 #[vp (sa tb),.slice a.a a.n a.c,vu r,vu w1,vu w2] h R:=by
 refine DN ?_
 unfold Tq
 exact bw ⟨_,l.c1,cr rfl hR⟩
theorem Si(l:ti h q tb hn)(hp:1≤hn)(na:a.n=key.length)(hk:4096<key.length){r w1 w2:Int}(hR:R (vt #[vb false,vi 62]) h):bq PG 48 #[vp (sa tb),.slice a.a a.n a.c,vu r,vu w1,vu w2] h R:=by
 refine DN ?_
 unfold Tq
 rw [na]
 exact bw ⟨_,l.c1,cj (by rw [beq_eq_false_iff_ne];omega) (cr (decide_eq_true (by omega)) hR)⟩
theorem VX(c:yT nd T)(ht:some T.t∈s.bC)(hx:x∈T.dc){dN:LN}(hv:x.r=v):Lv nd s.bC dN↔Lv nd (ix s.bC v) dN:=by
 have hv0:v≠0→vD nd s.bC v:=fun h0=>by
  have ht0:vD nd s.bC T.t:=.root ht (c.g.nz _ T.jO)
  have he:=c.rch ht0 _ (TD.pq hx)
  obtain⟨n,hn⟩:=(c.g.TZ (c.g.hs x hx)).1.Uj (c.g.By hx)
  exact .next he hn.1 (by unfold iM.node;rw [hv];simp) h0
 constructor
 ·exact Lv.mem (fun y h0 h=>.root (oP.2 (.inr h)) h0) fun y h0 h=>by
   rcases oP.1 h with rfl|h
   ·exact hv0 h0
   ·exact .root h h0
 ·exact Lv.mem (fun y h0 h=>by
   rcases oP.1 h with rfl|h
   ·exact hv0 h0
   ·exact .root h h0) fun y h0 h=>.root (oP.2 (.inr h)) h0
theorem Iu.bC {iN j:Nat}{l m:List (Option Nat)} (b:Iu iN nd l T j gm T') (h:∀dN,Lv nd m dN→Lv nd l dN):Iu iN nd m T j gm T' :=
 ⟨b.n,b.lS,b.was,fun h1 h2 dN lv=>b.L0 h1 h2 dN (h dN lv),b.anw,fun h1 h2=>(have r:=b.room h1 h2;⟨r.1,fun dN lv=>r.2.1 dN (h dN lv),r.2.2⟩)⟩
theorem aqw(p:qA h q s nd tb hn T)(k:oH T)(sr:Zs h q a key)(o0:key.length≤4096)(hl:s.bC.length<90000000)(hv:v=0∨s.da v){w1 w2:Nat}(hw1:w1<18446744073709551616)(hw2:w2<18446744073709551616)
  (LG:∀e r h' q' s' gm T',T.Bz key=some e→T.dc.Perm (e::r)→T'.dc.Perm (({e with r:=v,a:=w1,b:=w2}:iM)::r)→T'.sE=tM T.sE→uB h q s nd T h' q' s' gm T'→R (vt #[vb false,vi 0]) h')
  (sY:∀h' q' s' kq T1 gm,T.Bz key=none→qB nd T kq T1→Stepped T T1→(∃m,gm=kq++m) →
   (∀dN,Lv kq (some v::s.bC) dN→¬(iP s.cM (1+RS.mS kq dN) (RS.mT kq dN) (2+dH key.length)∧iP s.cM (1+RS.mS kq dN+yj (2+dH key.length)) (RS.mT kq dN+ym (2+dH key.length)) 7)) →
   uB h q s nd T h' q' s' gm T1→R (vt #[vb false,vi 31]) h')
  (vV:∀x h' q' s' kq T1 lT T2 gm T',T.Bz key=none→qB nd T kq T1→Stepped T T1→qB kq T1 lT T2 →
   (∀dN,Lv kq (some v::s.bC) dN→(iP s.cM (1+RS.mS kq dN) (RS.mT kq dN) (2+dH key.length)∧iP s.cM (1+RS.mS kq dN+yj (2+dH key.length)) (RS.mT kq dN+ym (2+dH key.length)) 7)) →
   x.key=key→x.r=v→x.a=w1→x.b=w2→x.hs=fU T.df key→T2.dc.Perm (x::T1.dc)→x.k=kq.length→x.e=kq.length+1→T2.sE=T1.sE →
   Nk (2 ^ T2.nw.j<T2.dc.length) s.cM lT s.bC T2 (T2.nw.j+1) gm T'→oH T2→uB h q s nd T h' q' s' gm T'→R (vt #[vb true,vi 0]) h') :
  bq PG 48 #[vp (sa tb),.slice a.a a.n a.c,uv (s.fk v),uv w1,uv w2] h R:=by
 refine DN ?_
 unfold Tq
 have wW:=p.pos
 have hhl:fU T.df key<18446744073709551616:=Bi _ _
 rw [sr.n]
 refine bw ⟨_,p.l.c1,cj (by rw [beq_eq_false_iff_ne];omega) (cj (decide_eq_false (by omega)) (bw ⟨_,p.l.c0,BU p.g hv (by omega) fun h1 q1 s1 g1 al1 JQ G0=>⟨_,_,rfl,cj rfl ?_⟩⟩))⟩
 have p1:=p.acR g1 JQ G0
 have ahK:RS.dV s.bC+1-1=RS.dV s.bC:=by omega
 have rl1:s1.bC.length≤max s.bC.length (rF s.bC+1):=by rw [JQ];exact BS _ _
 have aAH:rF s.bC≤s.bC.length:=JW _
 refine bw ⟨_,p1.l.c0,?_⟩
 refine NA p1 fun h2 q2 s2 lT T1 b2 a2 st _ f2=>⟨_,rfl,?_⟩
 have p2:=a2.jp p1
 have k2:=k.lS st.df st.lS
 have TX:Zs h2 q2 a key:=(sr.ex G0).ex a2.ex
 have er2:s2.bC=ix s.bC v:=by rw [f2.rt,JQ]
 have el2:s2.cM=s.cM:=f2.al.iN.trans al1.iN
 refine D9 p2.tr (k:=0) rfl rfl ⟨_,rfl,?_⟩
 rw [←sr.n]
 refine Ut (a:=a) TX.rd TX.n TX.b8 (by omega) k2.sd fun h3 kk3=>⟨_,rfl,?_⟩
 have p3:=p2.cI kk3
 have ef:=Na k st.df st.lS key
 have eg:Ex h q h2 q2:=G0.trans a2.ex
 have nA:∀(b:Bool) (e:Int) h' q' s' gm T',Gs h' q' s' gm→qB nd T gm T'→wQ s'.bC (ix s.bC v)→s'.bC.length≤max s.bC.length (rF s.bC+2)→s'.cM=s.cM→Ex h q h' q' →
   (∀h5 q5 s5,uB h q s nd T h5 q5 s5 gm T'→R (vt #[vb b,vi e]) h5)→qM PG 84 #[vp (sa q1.hb),vi ((RS.dV s.bC+1:Nat):Int)] h' fun _ h7=>R (vt #[vb b,vi e]) h7:=fun b e h' q' s' gm T' g n re rl el ex hR=>by
  have eh:q'.hb=q1.hb:=ex.1.trans G0.1.symm
  rw [←eh]
  refine aaF g (id:=v) (by omega) (by rw [ahK,re,kK,if_pos rfl]) fun h5 q5 s5 g5 al5 Ui ex5=>hR h5 q5 s5 ⟨g5,n,?_,?_,al5.iN.trans el,ex.trans ex5⟩
  ·rw [Ui,ahK];exact MV _ re
  ·rw [Ui,cd];exact rl
 have n2:qB nd T lT T1:=a2.n
 have hvr:s.fk v=s2.fk v:=by rw [←al1.fk,f2.fk]
 refine ND p3 k2 (fC kk3 TX.rd) TX.n TX.b8 (fun hf h4 r i kk4=>⟨_,_,_,rfl,cj rfl ?_⟩) fun pr e c h4 hf hc he kk4=>⟨_,_,_,rfl,?_⟩
 ·
  have hfT:T.Bz key=none:=by rw [←ef];exact hf
  have p4:=p3.cI kk4
  have Dm:bY N h2 h4:=cL kk3 kk4 fun _ z=>z.elim
  have acx:Ex h2 q2 h4 q2:=Ex.pm Dm fun b hb=>p2.g.st.fr hb
  refine bw ⟨_,p4.l.c0,dh fun h5 e5=>?_⟩
  have k5:bY N h4 h5:=e5▸cF _ _ _
  have p5:=p4.cI k5
  have sr4:Zs h4 q2 a key:=TX.ex acx
  have aus:Ex h4 q2 h5 q2:=Ex.pm k5 fun b hb=>p4.g.st.fr hb
  have srs:=aaU sr4 (by omega) e5 fun pp hp Tc=>(sr4.out pp hp Tc).2
  have efl:[key].flatten=key:=by simp
  have e17:1+0+(1+dH key.length)=2+dH key.length:=by omega
  have aor:Ex h q h5 q2:=(eg.trans acx).trans aus
  have lvE:∀dN,Lv lT (some v::s.bC) dN↔Lv lT s2.bC dN:=fun dN=>by rw [er2];exact(Lv.root lT s.bC v).symm
  refine alv p5.g srs (by show 1<_;omega) (by rw [efl];exact sr.b8) (fun hb=>absurd hb (by rw [efl];omega)) ?_ ?_
  ·rw [efl]
   intro _ h6 q6 s6 g6 er6 el6 ex6 hr6
   refine⟨_,_,rfl,cr rfl (nA false 31 h6 q6 s6 lT T1 g6 n2 (by rw [er6,er2];exact wQ.refl _) (by rw [er6,er2,←JQ];omega) (el6.trans el2) (aor.trans ex6) fun h7 q7 s7 A=>sY h7 q7 s7 lT T1 lT hfT n2 st ⟨[],by simp⟩ (fun dN lv z=>hr6 ?_) A)⟩
   rw [p5.g.room ((lvE dN).1 lv) 0 _,el2,e17]
   exact z.1
  ·rw [efl]
   intro h6 q6 s6 ok6 g6 er6 el6 hh6 ex6 hr6
   have aoq:=aor.trans ex6
   have l6:=p5.l.ex ex6
   refine⟨_,_,rfl,cj rfl (bw ⟨_,l6.c0,BU g6 (.inr hh6) (by rw [er6,er2,←JQ];omega) fun h7 q7 s7 g7 al7 er7 ex7=>⟨_,_,rfl,?_⟩⟩)⟩
   have l7:=l6.ex ex7
   have aiT:s6.bC=ix s.bC v:=er6.trans er2
   have auz:s7.bC=ix (ix s.bC v) lT.length:=by rw [er7,aiT]
   have hfr:RS.dV s6.bC+1-1=RS.dV s6.bC:=by omega
   have abx:∀j,s7.bC.getD j none=if j=RS.dV s6.bC then some lT.length else s6.bC.getD j none:=fun j=>by rw [er7];exact kK _ _ _
   have ahe:s7.cM=s.cM:=al7.iN.trans (el6.trans el2)
   have rl7:s7.bC.length≤max s.bC.length (rF s.bC+2):=by
    rw [auz]
    have:=BS (ix s.bC v) lT.length
    rw [TB]at this
    rw [JQ]at rl1
    omega
   have KM:∀dN,Lv lT (some v::s.bC) dN→(s7.zf 3 3↔iP s.cM (1+RS.mS lT dN+yj (2+dH key.length)) (RS.mT lT dN+ym (2+dH key.length)) 7):=fun dN lv=>by
    have lv2:=(lvE dN).1 lv
    have lv7:Lv (lT++[oV key]) s7.bC (dN++[lT.length]):=by
     rw [er7,er6];exact p5.g.leaf lv2 (by intro r hr;cases hr)
    have:=g7.room lv7 3 3
    obtain⟨QI,q2'⟩:=Ll (p5.g.ag8 lv2) (oV key)
    have ez:(oV key).sz=2+dH key.length:=by
     show 1+0+(j8 key).length=_
     rw [ok6.is.len];omega
    rw [QI,q2',ez,ahe,←mL]at this
    exact this
   refine bw ⟨_,l7.c0,A7 g7 (k:=6) (r:=3) (w:=3) ⟨⟨by omega,by omega⟩,⟨by omega,by omega⟩,by omega,by omega⟩ rfl rfl rfl (fun h8 q8 s8 g8 er8 el8 ex8 hr8=>?_) fun h8 q8 s8 g8 er8 el8 hh8 ex8 hr8=>?_⟩
   ·have l8:=l7.ex ex8
    have hd8:s8.bC.getD (RS.dV s6.bC+1-1) none=some lT.length:=by rw [er8,hfr,abx,if_pos rfl]
    refine⟨_,_,rfl,bw ⟨_,l8.c0,Vv g8 (by omega) hd8 ⟨_,_,rfl,bw ⟨_,l8.c0,BV g8 (by omega) hd8 fun h9 q9 s9 g9 al9 er9 ex9=>⟨_,rfl,cr rfl ?_⟩⟩⟩⟩⟩
    have re9:wQ s9.bC (ix s.bC v):=by
     rw [er9,hfr,er8,←aiT];exact wQ.back abx
    refine nA false 31 h9 q9 s9 _ T1 g9 ?_ re9 (by rw [er9,cd,er8];exact rl7) (al9.iN.trans (el8.trans ahe)) (((aoq.trans ex7).trans ex8).trans ex9) fun h5 q5 s5 A=>sY h5 q5 s5 lT T1 _ hfT n2 st ⟨[oV key],rfl⟩ (fun dN lv z=>hr8 ((KM dN lv).2 z.2)) A
    refine⟨p5.c.eG fun i hi=>bL (p5.g.lt (p5.da hi)),n2.t,n2.df,by rw [bG];have:=n2.len;omega,fun i hi hni=>?_,n2.own⟩
    rw [bL (by have:=n2.len;omega)];exact n2.fr i hi hni
   ·have l8:=l7.ex ex8
    have hd8:s8.bC.getD (RS.dV s6.bC+1-1) none=some lT.length:=by rw [er8,hfr,abx,if_pos rfl]
    have aec:(lT++[oV key]).length=lT.length+1:=by simp
    rw [aec]at hh8
    rw [aec]
    refine⟨_,_,rfl,bw ⟨_,l8.c0,Vv g8 (by omega) hd8 ⟨_,_,rfl,bw ⟨_,l8.c0,BV g8 (by omega) hd8 fun h9 q9 s9 g9 al9 er9 ex9=>⟨_,rfl,cj rfl ?_⟩⟩⟩⟩⟩
    have aty:s8.da lT.length:=g8.da (.root (lV.2 ⟨_,hd8⟩) (by have:=p5.g.pos;omega))
    have re9:wQ s9.bC (ix s.bC v):=by
     rw [er9,hfr,er8,←aiT];exact wQ.back abx
    have l9:=l8.ex ex9
    have aop:=(((aoq.trans ex7).trans ex8).trans ex9)
    have anf:s9.bC.getD (RS.dV s.bC+1-1) none=some v:=by rw [ahK,re9,kK,if_pos rfl]
    have abo:s9.da (lT.length+1):=(al9.da _).2 hh8
    have am1:s9.da lT.length:=(al9.da _).2 aty
    have atx:v=0∨s9.da v:=by
     by_cases h0:v=0
     ·exact .inl h0
     ·exact .inr (g9.da (.root (lV.2 ⟨_,anf⟩) h0))
    have auy:s8.fk (lT.length+1)=s9.fk (lT.length+1):=(al9.fk _).symm
    have aux:s8.fk lT.length=s9.fk lT.length:=(al9.fk _).symm
    refine bw ⟨_,l9.c0,Vv g9 (by omega) anf ⟨_,_,rfl,?_⟩⟩
    rw [show ((s8.fk (lT.length+1):Nat):Int)=((s9.fk (lT.length+1):Nat):Int)by rw [auy],show (s8.fk lT.length:Int)=(s9.fk lT.length:Int)by rw [aux]]
    obtain⟨nd9,Wx⟩:∃nd9,nd9=lT++[oV key]++[(⟨6,List.replicate 3 0,List.replicate 3 0⟩:di)]:=⟨_,rfl⟩
    rw [←Wx]at g9
    have asv:nd9.length=lT.length+2:=by rw [Wx];simp
    have ash:∀i,i<lT.length→nd9[i]?=lT[i]?:=fun i hi=>by rw [Wx,ce,bL hi]
    have atk:nd9[lT.length]?=some (oV key):=by rw [Wx,ce,bN (bH _),dD];rfl
    have ate:nd9[lT.length+1]?=some ⟨6,[0,0,0],[0,0,0]⟩:=by rw [Wx,ce,bN (by omega),fm];rfl
    refine bw ⟨_,l9.c0,zu (wF.refl g9) ate abo (.inr am1) (k:=1) (by simp) rfl fun ha qa sa nda fa va=>⟨_,rfl,?_⟩⟩
    have na:nda[lT.length+1]?=some ⟨6,[0,lT.length,0],[0,0,0]⟩:=by rw [va,if_pos rfl];rfl
    refine bw ⟨_,(l9.ex fa.ex).c0,?_⟩
    refine vO fa na abo (w:=fU T1.df key) (Bi _ _) (k:=0) (by simp) rfl fun hb qb sb ndb fb xm=>⟨_,rfl,?_⟩
    obtain⟨x0,tF⟩:∃x0:iM,x0=⟨lT.length+1,lT.length,fU T1.df key,key,0,0,0⟩:=⟨_,rfl⟩
    have nb2:ndb[x0.e]?=some (x0.node 0):=by rw [tF,xm,if_pos rfl];rfl
    have x0e:x0.e=lT.length+1:=by rw [tF]
    rw [←x0e]
    refine aku l9 fb (by rw [x0e];exact abo) atx hw1 hw2 nb2 fun hc qc sc T7 fc vc=>⟨rfl,?_⟩
    obtain⟨x,hx⟩:∃x:iM,x={x0 with r:=v,a:=w1,b:=w2}:=⟨_,rfl⟩
    have xe:x.e=lT.length+1:=by rw [hx];exact x0e
    have xk:x.k=lT.length:=by rw [hx,tF]
    have xh:x.hs=fU T1.df key:=by rw [hx,tF]
    have Um:x.key=key:=by rw [hx,tF]
    have xr:x.r=v:=by rw [hx]
    have alF:∀i,i<lT.length→T7[i]?=lT[i]?:=fun i hi=>by
     rw [vc,if_neg (by rw [x0e];omega),xm,if_neg (by omega),va,if_neg (by omega)];exact ash i hi
    have ltT:∀i∈T1.dN,i<lT.length:=fun i hi=>p2.g.lt (p2.da hi)
    have cC:yT T7 T1:=p2.c.eG fun i hi=>alF i (ltT i hi)
    have WG:sc.bC.getD (hn-1) none=some T1.t:=by
     rw [fc.rt,re9,kK,if_neg p.QT,n2.t];exact p.held
    have pC:qA hc qc sc T7 tb hn T1:=⟨fc.g,l9.ex fc.ex,p.pos,p.lt,WG,cC,p.tz.ex (aop.trans fc.ex)⟩
    have nxe:x.e∉T1.dN:=fun hm=>by have:=ltT _ hm;omega
    have nxk:x.k∉T1.dN:=fun hm=>by have:=ltT _ hm;omega
    have ZJ:x.hs<18446744073709551616:=by rw [xh];exact Bi _ _
    have asr:T7[x.e]?=some (x.node 0):=by rw [vc,xe,←x0e,if_pos rfl,hx]
    have asq:T7[x.k]?=some (oV x.key):=by rw [vc,xk,Um,if_neg (by rw [x0e];omega),xm,if_neg (by omega),va,if_neg (by omega)];exact atk
    have hce:sc.da x.e:=by rw [xe];exact fc.da abo
    have hck:sc.da x.k:=by rw [xk];exact fc.da am1
    rw [show (s9.fk x0.e:Int)=(sc.fk x.e:Int)by rw [xe,←x0e,←fc.fk],show (fU T1.df key:Int)=(x.hs:Int)by rw [xh]]
    refine ac6 pC.tr ZJ (fun _ _ _=>rfl) nxe nxk (by omega) hce hck asr asq (by rw [Um];exact ok6) fun hd qd sd ndd fd td vd=>⟨rfl,?_⟩
    obtain⟨y1,y2,y3,y4,y5,y6,y7,y8⟩:=T1.zP x.hs (x::T1.chain x.hs)
    have azm:=p2.len
    have sh5:=NM T1 x.hs (x::T1.chain x.hs)
    obtain⟨j5,m5⟩:=IN T1 x.hs (x::T1.chain x.hs) p2.c.j2 p2.c.mv
    obtain⟨rr,pm1,pm2⟩:=cC.g.lS ZJ
    have SJ:(T1.fW x.hs (x::T1.chain x.hs)).dc.Perm (x::T1.dc):=(pm2 _).trans (List.Perm.cons x pm1.symm)
    have asF:∀i∈(T1.fW x.hs (x::T1.chain x.hs)).dN,i∈T1.dN∨i=x.e∨i=x.k:=fun i hi=>by
     rw [T1.uN]at hi
     rcases bI.1 hi with hi|hi
     ·exact .inl (bW _ hi)
     ·have hi:=(iT SJ).mem_iff.1 hi
      rw [gS]at hi
      rcases ck.1 hi with rfl|hi
      ·exact .inr (.inl rfl)
      rcases ck.1 hi with rfl|hi
      ·exact .inr (.inr rfl)
      ·exact .inl (bK _ hi)
    have arM:(T1.pick x.hs).id∈T1.dN:=cC.g.Bb x.hs
    generalize hTT:T1.fW x.hs (x::T1.chain x.hs)=TT at *
    have tnd:=td.c.tn
    have hTt:TT.t=T1.t:=y1
    refine Z4 td (by omega) ⟨_,rfl,bw ⟨_,td.l.c0,_,zN td.g td.l td.pos td.held ⟨rfl,rfl⟩,?_⟩⟩
    have ew:wrap .u64 (wrap .i64 ((T1.dc.length:Int)+1))=((T1.dc.length+1:Nat):Int):=by rw [bU (by omega) (by omega),eN (by omega) (by omega)];omega
    have ew2:wrap .i64 ((T1.dc.length:Int)+1)=((T1.dc.length+1:Nat):Int):=by rw [bU (by omega) (by omega)];omega
    rw [ew,ew2]
    refine vO (wF.refl td.g) tnd td.ht (w:=T1.dc.length+1) (by omega) (k:=1) (by simp) rfl fun he qe se nde fe ve=>⟨_,rfl,?_⟩
    have elE:TT.dc.length=T1.dc.length+1:=by rw [SJ.length_eq];simp
    have okE:yT nde TT:=⟨by rw [elE,y3];exact td.c.aqG fun i=>by rw [ve];rfl,m5,j5⟩
    have pE:qA he qe se nde tb hn TT:=⟨fe.g,td.l.ex fe.ex,td.pos,td.lt,by rw [fe.rt];exact td.held,okE,td.tz.ex fe.ex⟩
    have asg:∀i,i<lT.length→i∉T1.dN→nde[i]?=lT[i]?:=fun i hi hni=>by
     rw [ve,if_neg fun e=>hni (by rw [e,hTt];exact T1.jO),vd,if_neg fun e=>hni (by rw [e];exact arM),if_neg (by omega)]
     exact alF i hi
    have azn:nde.length=lT.length+2:=by rw [fe.len,fd.len,fc.len];exact asv
    have nE:qB lT T1 nde TT:=⟨okE,hTt,y2,by omega,asg,fun i hi=>by
     rcases asF i hi with h|h|h
     ·exact .inl h
     ·exact .inr (by omega)
     ·exact .inr (by omega)⟩
    have reE:wQ se.bC (ix s.bC v):=by rw [fe.rt,fd.rt,fc.rt];exact re9
    have rlE:se.bC.length≤max s.bC.length (rF s.bC+2):=by rw [fe.rt,fd.rt,fc.rt,er9,cd,er8];exact rl7
    have ahd:se.cM=s.cM:=fe.al.iN.trans (fd.al.iN.trans (fc.al.iN.trans (al9.iN.trans (el8.trans ahe))))
    have exE:=((aop.trans fc.ex).trans fd.ex).trans fe.ex
    have kE:oH TT:=k2.put y2 SJ (by rw [xh,Um]) fun y hy=>by rw [Um];exact FV hf y hy
    refine Ea pE.tr (k:=0) rfl rfl ⟨_,rfl,zh pE.g pE.l pE.c.g.wn (pE.da (TD.nU _)) ⟨_,rfl,?_⟩⟩
    rw [pE.tr.K2]
    have jn:=pE.c.g.jn
    have h2j:=o7 jn
    have aeq:=fun h6 q6 s6 Ob T6 hE A=>vV x h6 q6 s6 lT T1 nde TT Ob T6 hfT n2 st nE (fun dN lv=>⟨by
      have:=(p5.g.room ((lvE dN).1 lv) 0 (1+dH key.length)).1 hr6
      rw [el2,e17]at this;exact this,(KM dN lv).1 hr8⟩) Um xr (by rw [hx]) (by rw [hx]) (by rw [xh,n2.df]) SJ xk xe sh5 hE kE A
    have hrt:some TT.t∈s.bC:=lV.2 ⟨hn-1,by rw [hTt,n2.t];exact p.held⟩
    refine ca (fun Ue=>?_) fun uc=>?_
    ·have Ue:2 ^ TT.nw.j<TT.dc.length:=by rw [elE];generalize 2 ^ TT.nw.j=y at *;omega
     have e2:wrap .i64 ((2:Int)*((2 ^ TT.nw.j:Nat):Int))=((2 ^ (TT.nw.j+1):Nat):Int):=by
      rw [mr]
      generalize 2 ^ TT.nw.j=y at *
      rw [bU (by omega) (by omega)];omega
     rw [e2]
     have ZQ:=pE.j19
     refine UG pE (by have:=pE.c.j2.1;omega) ZQ fun h6 q6 s6 Ob T6 g6 B er el ex=>⟨rfl,?_⟩
     refine nA true 0 h6 q6 s6 Ob T6 g6 (n2.trans (nE.trans B.n)) (by rw [er];exact reE) (by rw [er];exact rlE) (el.trans ahd) (exE.trans ex) fun h7 q7 s7 A=>aeq h7 q7 s7 Ob T6 ?_ A
     unfold Nk
     rw [if_pos Ue,←ahd]
     refine B.bC fun dN lv=>?_
     have lv':=(VX (s:=s) okE hrt (x:=x) (SJ.mem_iff.2 (bQ ..)) xr).1 lv
     exact Lv.T5 reE.symm lv'
    ·have uc:¬2 ^ TT.nw.j<TT.dc.length:=by rw [elE];generalize 2 ^ TT.nw.j=y at *;omega
     refine nA true 0 he qe se nde TT pE.g (n2.trans nE) reE rlE ahd exE fun h7 q7 s7 A=>aeq h7 q7 s7 nde TT ?_ A
     unfold Nk
     rw [if_neg uc]
     exact⟨rfl,rfl⟩
 ·
  have hfT:T.Bz key=some e:=by rw [←ef];exact hf
  have p4:=p3.cI kk4
  have Dm:bY N h2 h4:=cL kk3 kk4 fun _ z=>z.elim
  have acx:Ex h2 q2 h4 q2:=Ex.pm Dm fun b hb=>p2.g.st.fr hb
  have hm:=(pz hf).1
  have Do:=p4.c.g.hs e hm
  have hse:=(p4.c.g.TZ Do).1
  rw [hc]at hse
  obtain⟨GY,hkn,ok⟩:=(ou.1 hse).2.1
  have ZN:=p4.da (TD.pq hm)
  refine cr (by rw [bne_iff_ne];have:=RS.un p4.g.v ZN;omega) ?_
  rw [show (s.fk v:Int)=(s2.fk v:Int)by rw [hvr]]
  have Wm:v=0∨s2.da v:=hv.imp_right fun h=>f2.da ((al1.da _).2 h)
  refine aku p4.l (wF.refl p4.g) ZN Wm hw1 hw2 GY fun h5 q5 s5 GM f5 v5=>⟨rfl,?_⟩
  obtain⟨r,pm1,pm2⟩:=p4.c.g.lS Do
  have c5:=p4.c.g.aqF (x':={e with r:=v,a:=w1,b:=w2}) (gm:=GM) Do hc rfl rfl rfl rfl v5
  obtain⟨y1,y2,y3,y4,y5,y6,y7,y8⟩:=T1.zP e.hs (pr++({e with r:=v,a:=w1,b:=w2}:iM)::c)
  obtain⟨j5,m5⟩:=IN T1 e.hs (pr++({e with r:=v,a:=w1,b:=w2}:iM)::c) p4.c.j2 p4.c.mv
  have SJ:T1.dc.Perm (e::((pr++c)++r)):=by
   rw [hc]at pm1
   refine pm1.trans ?_
   rw [ce,ce]
   exact gT
  have pm5:(T1.fW e.hs (pr++({e with r:=v,a:=w1,b:=w2}:iM)::c)).dc.Perm (({e with r:=v,a:=w1,b:=w2}:iM)::((pr++c)++r)):=by
   refine(pm2 _).trans ?_
   rw [ce,ce]
   exact gT
  have el5:(T1.fW e.hs (pr++({e with r:=v,a:=w1,b:=w2}:iM)::c)).dc.length=T1.dc.length:=by rw [pm5.length_eq,SJ.length_eq];simp
  have ahs:∀i∈(T1.fW e.hs (pr++({e with r:=v,a:=w1,b:=w2}:iM)::c)).dN,i∈T1.dN:=fun i hi=>by
   rw [T1.uN]at hi
   rcases bI.1 hi with hi|hi
   ·exact bW _ hi
   ·refine bK _ ((iT SJ).mem_iff.2 ?_)
    exact(iT pm5).mem_iff.1 hi
  have ok5:yT GM (T1.fW e.hs (pr++({e with r:=v,a:=w1,b:=w2}:iM)::c)):=⟨by rw [y3,el5];exact c5,m5,j5⟩
  have n5:qB lT T1 GM (T1.fW e.hs (pr++({e with r:=v,a:=w1,b:=w2}:iM)::c)) :=
   ⟨ok5,y1,y2,by rw [f5.len];exact bH _,fun i _ hi=>by rw [v5,if_neg fun e1=>hi (by rw [e1];exact TD.pq hm)],fun i hi=>.inl (ahs i hi)⟩
  refine nA false 0 h5 q5 s5 GM _ f5.g (n2.trans n5) (by rw [f5.rt,er2];exact wQ.refl _) (by rw [f5.rt,er2,←JQ];omega) (f5.al.iN.trans el2) ((eg.trans acx).trans f5.ex) fun h7 q7 s7 A=>?_
  exact LG e ((pr++c)++r) h7 q7 s7 GM _ hfT (st.lS.symm.trans SJ) pm5 ((NM T1 e.hs _).trans st.sn) A
end
section
end
section
end
section
variable {h h' h2:Hp} {q q' q2:HQ} {s s' s2:RS} {nd gm lT:List di} {m:di} {tb hn:Nat} {T:TD} {R:RP} {hs:Nat} {x:iM}
def wT(t df:Nat):TD:=⟨t,df,⟨t+1,2,[[],[],[],[]]⟩,none,0⟩
theorem SQ(t df:Nat):(wT t df).dc=[]:=rfl
theorem EV(t df:Nat):(wT t df).dN=[t,t+1]:=rfl
theorem aa0 {nd:List di}{t df:Nat}(h0:t≠0)(h1:nd[t]?=some ⟨4,[t+1,0],[df,0,0]⟩)(h2:nd[t+1]?=some ⟨5,[0,0,0,0],[]⟩):yT nd (wT t df):=by
 refine⟨⟨h1,h2,nofun,rfl,nofun,by show 2≤20;omega,nofun,fun i c hc=>?_,nofun,nofun,nofun,?_,fun i hi=>?_,fun _=>rfl⟩,nofun,⟨bH _,nofun⟩⟩
 ·have:c=[]:=by
   have hm:c∈[[],[],[],([]:List iM)]:=bx hc
   simpa using hm
  subst this
  exact⟨trivial,nofun⟩
 ·rw [EV];simp
 ·rw [EV]at hi
  simp at hi;omega
theorem VO {t df:Nat}(h:df<18446744073709551616):oH (wT t df):=⟨h,nofun,gQ⟩
theorem aaZ(t df:Nat):(wT t df).sE=(4,0,0):=rfl
theorem af9(x:Gs h q s nd)(tz:Tz h q)(HU:s.bC.length<90000000){df:Nat}(hs:df<18446744073709551616)
  (sY:∀h' q' s' gm,Gs h' q' s' gm→(∃m,gm=nd++m)→wQ s'.bC s.bC→s'.bC.length≤max s.bC.length (rF s.bC+2)→s'.cM=s.cM→Ex h q h' q' →
   (∀dN,Lv nd s.bC dN→¬(iP s.cM (1+RS.mS nd dN) (RS.mT nd dN) 6∧iP s.cM (1+RS.mS nd dN+6) (RS.mT nd dN) 5))→R (vt #[vp none,vi 31]) h')
  (vV:∀h' q' s' gm tb,qA h' q' s' gm tb (RS.dV s.bC+1) (wT nd.length df)→(∃m,gm=nd++m)→s'.bC=ix s.bC nd.length→s'.cM=s.cM→Ex h q h' q'→h.size≤tb→tb<h'.size→q'.bR tb=.out →
   (∀dN,Lv nd s.bC dN→(iP s.cM (1+RS.mS nd dN) (RS.mT nd dN) 6∧iP s.cM (1+RS.mS nd dN+6) (RS.mT nd dN) 5))→R (vt #[vp (sa tb),vi 0]) h') :
  bq PG 58 #[vp (sa q.hb),uv df] h R:=by
 refine ab5 ?_
 unfold aoa
 have hp:=x.pos
 refine A7 x (k:=4) (r:=2) (w:=3) ⟨⟨by omega,by omega⟩,⟨by omega,by omega⟩,by omega,by omega⟩ rfl rfl rfl (fun h1 q1 s1 g1 JQ el1 G0 hr=>⟨_,_,rfl,cr rfl (sY h1 q1 s1 nd g1 ⟨[],by simp⟩ (by rw [JQ];exact wQ.refl _) (by rw [JQ];omega) el1 G0 fun dN lv z=>hr ((x.room lv 2 3).2 z.1))⟩) fun h1 q1 s1 g1 JQ el1 ZO G0 hr=>⟨_,_,rfl,cj rfl ?_⟩
 have at0:(nd++[(⟨4,List.replicate 2 0,List.replicate 3 0⟩:di)])[nd.length]?=some ⟨4,[0,0],[0,0,0]⟩:=by rw [bN (bH _),dD];rfl
 rw [←G0.1]
 refine vO (wF.refl g1) at0 ZO (w:=df) hs (k:=0) (by simp) rfl fun h2 q2 s2 lT f2 v2=>⟨_,rfl,?_⟩
 have alV:lT.length=nd.length+1:=by rw [f2.len];simp
 have e2:lT=nd++[⟨4,[0,0],[df,0,0]⟩]:=by
  refine cG fun i=>?_
  rw [v2]
  by_cases e:i=nd.length
  ·rw [if_pos e,e,bN (bH _),dD];rfl
  ·rw [if_neg e]
   by_cases hl:i<nd.length
   ·rw [bL hl,bL hl]
   ·rw [bV (by simp;omega),bV (by simp;omega)]
 subst e2
 have vW:q1.hb=q2.hb:=f2.ex.1.symm
 have hh2:=f2.da ZO
 rw [vW,f2.fk nd.length]
 refine BU f2.g (.inr hh2) (by rw [f2.rt,JQ];omega) fun h3 q3 s3 g3 al3 er3 ex3=>⟨_,_,rfl,?_⟩
 have Tt:s3.bC=ix s.bC nd.length:=by rw [er3,f2.rt,JQ]
 have aoC:RS.dV s2.bC=RS.dV s.bC:=by rw [f2.rt,JQ]
 have ahf:s3.cM=s.cM:=al3.iN.trans (f2.al.iN.trans el1)
 have acy:Ex h q h3 q3:=(G0.trans f2.ex).trans ex3
 have rl3:s3.bC.length≤max s.bC.length (rF s.bC+1):=by rw [Tt];exact BS _ _
 have KM:∀dN,Lv nd s.bC dN→(s3.zf 4 0↔iP s.cM (1+RS.mS nd dN+6) (RS.mT nd dN) 5):=fun dN lv=>by
  have lv3:Lv (nd++[(⟨4,[0,0],[df,0,0]⟩:di)]) s3.bC (dN++[nd.length]):=by
   rw [Tt];exact x.leaf lv (by intro r hr;simpa using hr)
  have:=g3.room lv3 4 0
  obtain⟨QI,q2'⟩:=Ll (x.ag8 lv) (⟨4,[0,0],[df,0,0]⟩:di)
  rw [QI,q2',ahf,←mL]at this
  exact this
 rw [aoC]
 rw [show q2.hb=q3.hb by rw [ex3.1]]
 refine A7 g3 (k:=5) (r:=4) (w:=0) ⟨⟨by omega,by omega⟩,⟨by omega,by omega⟩,by omega,by omega⟩ rfl rfl rfl (fun h4 q4 s4 g4 er4 el4 ZS hr4=>⟨_,_,rfl,cr rfl ?_⟩) fun h4 q4 s4 g4 er4 el4 hh4 ZS hr4=>⟨_,_,rfl,cj rfl ?_⟩
 ·rw [show q3.hb=q4.hb by rw [ZS.1]]
  have hd4:s4.bC.getD (RS.dV s.bC+1-1) none=some nd.length:=by rw [er4,Tt,jC,kK,if_pos rfl]
  refine BV g4 (by omega) hd4 fun h5 q5 s5 g5 al5 Ui ex5=>⟨_,rfl,sY h5 q5 s5 _ g5 ⟨_,rfl⟩ ?_ ?_ (al5.iN.trans (el4.trans ahf)) ((acy.trans ZS).trans ex5) fun dN lv z=>hr4 ((KM dN lv).2 z.2)⟩
  ·rw [Ui,er4,Tt,jC];exact MV _ (wQ.refl _)
  ·rw [Ui,cd,er4];omega
 ·have alU:(nd++[(⟨4,[0,0],[df,0,0]⟩:di)]).length=nd.length+1:=by simp
  rw [alU]at hh4
  rw [alU]
  refine dh fun h5 e5=>?_
  have k5:bY N h4 h5:=e5▸cF _ _ _
  have wS:eM h5 h4.size [vp (sa q4.hb),vi ((RS.dV s.bC+1:Nat):Int)]:=by
   rw [show q4.hb=q3.hb from ZS.1]
   exact e5▸du h4 #[vp (sa q3.hb),vi ((RS.dV s.bC+1:Nat):Int)] _
  have l5:ti h5 q4 h4.size (RS.dV s.bC+1):=⟨wS,g4.st.fr (bH _)⟩
  have g5:=g4.cI k5
  have hd5:s4.bC.getD (RS.dV s.bC+1-1) none=some nd.length:=by rw [er4,Tt,jC,kK,if_pos rfl]
  have hht:s4.da nd.length:=g4.da (.root (lV.2 ⟨_,hd5⟩) (by omega))
  have YT:nb h4=ad h4.size:=rfl
  rw [YT]
  refine zN g5 l5 (by omega) hd5 ⟨_,rfl,?_⟩
  rw [show q3.hb=q4.hb by rw [ZS.1]]
  have at5:(nd++[(⟨4,[0,0],[df,0,0]⟩:di)]++[(⟨5,List.replicate 4 0,List.replicate 0 0⟩:di)])[nd.length]?=some ⟨4,[0,0],[df,0,0]⟩:=by
   rw [ce,bN (bH _),dD];rfl
  refine zu (wF.refl g5) at5 hht (.inr hh4) (k:=0) (by simp) rfl fun h6 q6 s6 Ob f6 v6=>⟨_,rfl,?_⟩
  have hfr:=RS.vm s.bC
  have aou:Ex h4 q4 h6 q6:=(Ex.pm k5 fun b hb=>g4.st.fr hb).trans f6.ex
  have e6:Ob=nd++[⟨4,[nd.length+1,0],[df,0,0]⟩,⟨5,[0,0,0,0],[]⟩]:=by
   refine cG fun i=>?_
   rw [v6]
   by_cases e:i=nd.length
   ·rw [if_pos e,e,bN (bH _),dD];rfl
   ·rw [if_neg e,ce]
    by_cases hl:i<nd.length
    ·rw [bL hl,bL hl]
    ·have ap:∀l:List di,(nd++l)[i]?=l[i-nd.length]?:=fun l=>bN (by omega)
     rw [ap,ap]
     obtain⟨j,hj⟩:∃j,i-nd.length=j+1:=⟨i-nd.length-1,by omega⟩
     rw [hj];rfl
  have ok:yT Ob (wT nd.length df):=by
   refine aa0 (by omega) ?_ ?_
   ·rw [e6,bN (bH _),dD];rfl
   ·rw [e6,bN (by omega),fm];rfl
  have l6:=l5.ex f6.ex
  refine vV h6 q6 s6 Ob h4.size ⟨f6.g,l6,by omega,by omega,by rw [f6.rt];exact hd5,ok,tz.ex ((acy.trans ZS).trans aou)⟩ ⟨_,e6⟩ (by rw [f6.rt,er4,Tt]) (f6.al.iN.trans (el4.trans ahf)) ((acy.trans ZS).trans aou) (bP acy.2.1 ZS.2.1) (eE l6.row) l6.out fun dN lv=>⟨(x.room lv 2 3).1 hr,(KM dN lv).1 hr4⟩
theorem akp(x:Gs h q s nd)(tz:Tz h q)(HU:s.bC.length<90000000)(c:yT nd T)(hh:s.da T.t)
  (vV:∀h' q' s' tb,qA h' q' s' nd tb (RS.dV s.bC+1) T→s'.Kh s→s'.bC=ix s.bC T.t→Ex h q h' q'→h.size≤tb→tb<h'.size→q'.bR tb=.out→R (vt #[vp (sa tb),vi 0]) h') :
  bq PG 45 #[vp (sa q.hb),uv (s.fk T.t)] h R:=by
 refine Rv ?_
 unfold ain
 refine QH x c.g.tn hh ⟨_,_,_,_,rfl,cj rfl ?_⟩
 show H6 (sa q.hb) (s.fk T.t:Int) false h R
 unfold H6
 refine cj rfl (BU x (.inr hh) (by omega) fun h1 q1 s1 g1 al1 JQ G0=>⟨_,_,rfl,dh fun h2 e2=>?_⟩)
 have k2:bY N h1 h2:=e2▸cF _ _ _
 have mi:eM h2 h1.size [vp (sa q1.hb),vi ((RS.dV s.bC+1:Nat):Int)]:=by
  rw [G0.1]
  exact e2▸du h1 #[vp (sa q.hb),vi ((RS.dV s.bC+1:Nat):Int)] _
 have l2:ti h2 q1 h1.size (RS.dV s.bC+1):=⟨mi,g1.st.fr (bH _)⟩
 have hfr:=RS.vm s.bC
 exact vV h2 q1 s1 h1.size ⟨g1.cI k2,l2,by omega,by omega,by rw [JQ,jC,kK,if_pos rfl],c,(tz.ex G0).cI k2⟩ al1 JQ (G0.trans (Ex.pm k2 fun b hb=>g1.st.fr hb)) G0.2.1 (eE mi) l2.out
theorem agc(p:qA h q s nd tb hn T)
  (hR:∀h1 q1 s1 h2,Ex h q h1 q1→bY (fun b=>b=tb) h1 h2→Gs h2 q1 s1 nd→s1.Kh s→s1.bC=s.bC.set (hn-1) none→ti h2 q1 tb 0→q1.bR tb=.out→R (vt #[]) h2) :
  bq PG 40 #[vp (sa tb)] h R:=by
 refine Ry ?_
 unfold aip
 have:=p.pos
 refine bw ⟨_,p.l.c1,cr (by rw [bne_iff_ne];omega) (bw ⟨_,p.l.c0,bw ⟨_,p.l.c1,BV p.g p.pos p.held fun h1 q1 s1 g1 al1 JQ G0=>⟨_,rfl,bw ?_⟩⟩⟩)⟩
 have l1:=p.l.ex G0
 refine eu l1.row (i:=1) (cm _ _) (by simp) fun h2 mi k2=>?_
 exact hR h1 q1 s1 h2 G0 k2 (g1.HP k2 fun b e=>e▸l1.out) al1 JQ ⟨mi,l1.out⟩ l1.out
theorem Z8(l:ti h q tb 0)(hR:R (vt #[]) h):bq PG 40 #[vp (sa tb)] h R:=by
 refine Ry ?_
 unfold aip
 exact bw ⟨_,l.c1,cj rfl hR⟩
theorem af7(p:qA h q s nd tb hn T)(hR:∀h',bY N h h'→R (.agg #[vi (T.dc.length:Nat),vi (T.sE.1:Nat),vi (T.sE.2.1:Nat),vi (T.sE.2.2:Nat)]) h'):bq PG 44 #[vp (sa tb)] h R:=by
 refine Rw ?_
 unfold ace
 refine dh fun h1 e1=>?_
 have k1:bY N h h1:=e1▸cF _ _ _
 have A2:eM h1 h.size [vi 0,vi 0,vi 0,vi 0]:=e1▸du h #[vi 0,vi 0,vi 0,vi 0] _
 have p1:=p.cI k1
 have wW:=p.pos
 have hl:=p.len
 have jn:=o7 p.c.g.jn
 refine bw ⟨_,p1.l.c1,cj (by rw [beq_eq_false_iff_ne];omega) (Z4 p1.tr (by omega) ⟨_,rfl,Ea p1.tr (k:=0) rfl rfl ⟨_,rfl,zh p1.g p1.l p1.c.g.wn (p1.da T.nU) ⟨_,rfl,Ea p1.tr (k:=1) rfl rfl ⟨_,rfl,?_⟩⟩⟩⟩)⟩
 have en:(di.mk 5 (T.nw.cs.map lL) []).cY.length=2 ^ T.nw.j:=p1.tr.K2
 rw [en]
 have nA:∀o:Nat,o=T.sE.2.1→∃t18:Int,(vi (o:Int):Value)=vi t18∧bq PG 61 #[vp (sa tb),vi 4] h1 fun r Aj=>∃t20:Int,r=vu t20∧St Aj (nb h) (vi (T.dc.length:Int)) fun Tl=>St Tl ((nb h).add 1) (vi ((2 ^ T.nw.j:Nat):Int)) fun zC=>St zC ((nb h).add 2) (vi t18) fun H1=>St H1 ((nb h).add 3) (vi (wrap .i64 t20)) fun Nr=>∃akh:Int,cell Nr (nb h)=some (vi akh)∧∃akg:Int,cell Nr ((nb h).add 1)=some (vi akg)∧∃akf:Int,cell Nr ((nb h).add 2)=some (vi akf)∧∃ake:Int,cell Nr ((nb h).add 3)=some (vi ake)∧R (.agg #[vi akh,vi akg,vi akf,vi ake]:Value) Nr:=fun o eo=>by
  subst eo
  refine⟨_,rfl,D9 p1.tr (k:=2) rfl rfl ⟨_,rfl,?_⟩⟩
  have hmv:T.mv≤1048576:=by
   cases ho:T.od with
   |none=>rw [p.c.g.mz ho];omega
   |some o=>have:=p.c.mv o ho;have:=(o7 (p.c.g.jo o ho)).1;omega
  rw [bU (x:=(T.mv:Int)) (by omega) (by omega)]
  have YT:nb h=ad h.size:=rfl
  rw [YT]
  refine eu A2 (i:=0) rfl (by simp) fun h2 mi k2=>?_
  refine eu mi (i:=1) (cm _ _) (by simp) fun h3 zQ k3=>?_
  refine eu zQ (i:=2) (cm _ _) (by simp) fun h4 GG k4=>?_
  refine eu GG (i:=3) (cm _ _) (by simp) fun h5 wS k5=>?_
  refine⟨_,bS wS 0,_,by rw [cm];exact bS wS 1,_,by rw [cm];exact bS wS 2,_,by rw [cm];exact bS wS 3,hR h5 ?_⟩
  have ks:bY (fun b=>b=h.size) h1 h5:=((k2.trans k3).trans k4).trans k5
  exact cL k1 ks fun b e=>by rw [e];exact bH _
 cases ho:T.od with
 |none =>
  rw [TD.uV ho,RS.iQ]
  exact af6 p1.g p1.l (nA 0 (by rw [uM ho]))
 |some o =>
  rw [TD.qV ho]
  refine zh p1.g p1.l (p1.c.g.wo o ho) (p1.da (TD.rG ho)) (nA _ ?_)
  show (tN (o.cs.map lL) T.mv none).length=_
  rw [uJ,bA,p1.c.g.F3 o ho,sL ho]
theorem Z1(x:Gs h q s nd)(l:ti h q tb 0)(hR:∀h',bY N h h'→R (.agg #[vi 0,vi 0,vi 0,vi 0]) h'):bq PG 44 #[vp (sa tb)] h R:=by
 refine Rw ?_
 unfold ace
 refine dh fun h1 e1=>?_
 have k1:bY N h h1:=e1▸cF _ _ _
 have A2:eM h1 h.size [vi 0,vi 0,vi 0,vi 0]:=e1▸du h #[vi 0,vi 0,vi 0,vi 0] _
 have l1:=l.cI k1
 have YT:nb h=ad h.size:=rfl
 refine bw ⟨_,l1.c1,cr rfl ?_⟩
 rw [YT]
 refine eu A2 (i:=0) rfl (by simp) fun h2 mi k2=>?_
 refine eu mi (i:=1) (cm _ _) (by simp) fun h3 zQ k3=>?_
 refine eu zQ (i:=2) (cm _ _) (by simp) fun h4 GG k4=>?_
 refine eu GG (i:=3) (cm _ _) (by simp) fun h5 wS k5=>?_
 refine⟨_,bS wS 0,_,by rw [cm];exact bS wS 1,_,by rw [cm];exact bS wS 2,_,by rw [cm];exact bS wS 3,hR h5 ?_⟩
 have ks:bY (fun b=>b=h.size) h1 h5:=((k2.trans k3).trans k4).trans k5
 exact cL k1 ks fun b e=>by rw [e];exact bH _
theorem af4(x:Gs h q s nd)(l:ti h q tb 0)(hR:R (vb false) h):bq PG 47 #[vp (sa tb)] h R:=by
 refine Rt ?_
 unfold ail
 exact ac4 x l ⟨_,rfl,cr rfl hR⟩
end
structure Nm where
 hs:Nat
 key:LN
 c:Nat
def Nm.hk(x:Nm):HK:=(x.hs,x.key)
def QR(x:Nm):LV:=[uv x.hs,.slice (sa x.c) x.key.length x.key.length]
theorem yG(x:Nm):(QR x).length=2:=rfl
structure NL (h0 h:Hp) (a:Sl) (ob:Option Nat) (l:List Nm):Prop where
 gl:GL 2 h0 h a ob (l.flatMap QR)
 row:∀x∈l,eM h x.c (x.key.map bv)∧h0.size≤x.c∧ob≠some x.c
 CV:(l.map (·.c)).Nodup
section
variable {h h' h0 h1 h2:Hp} {q q2:HQ} {s:RS} {nd:List di} {m:di} {id tb hn:Nat} {T:TD} {R:RP} {n hs v:Nat} {a:Sl} {x:iM} {key:LN} {ob:Option Nat} {l l':List Nm} {S:Nat→Prop}
theorem NL.nil(h0 h:Hp):NL h0 h ⟨none,0,0⟩ none []:=⟨GL.nil 2 h0 h,nofun,gQ⟩
theorem NL.eG(x:NL h0 h a ob l)(k:bY S h h')(hS:∀b,S b→ob≠some b∧∀y∈l,y.c≠b):NL h0 h' a ob l :=
 ⟨x.gl.eG k fun b hb s=>(hS b s).1 hb,fun y hy=>⟨bF k (x.row y hy).1 fun s=>(hS _ s).2 y hy rfl,(x.row y hy).2⟩,x.CV⟩
theorem NL.cI(x:NL h0 h a ob l)(k:bY N h h'):NL h0 h' a ob l:=x.eG k fun _ s=>s.elim
theorem NL.len(x:NL h0 h a ob l):a.n=l.length:=by
 have:=x.gl.len
 rw [gN yG]at this
 omega
theorem NL.add {e t:TypeId}{y:Nm}{K:OA→Nat→Nat→Hp→Prop}(x:NL h0 h a ob l)(ZR:h0.size≤h.size)(hr:eM h y.c (y.key.map bv)) (hy0:h0.size≤y.c) (hyo:ob≠some y.c) (hyn:∀w∈l,w.c≠y.c) (o0:l.length≤400000000)
  (hK:∀a' c' h' jK,NL h0 h' ⟨a',a.n+1,c'⟩ jK (l++[y])→bY (fun b=>ob=some b) h h'→(∀b,jK=some b→ob=some b∨h.size≤b)→K a' (a.n+1) c' h') :
  gi (h.push (.cells #[vu (y.hs:Int),.slice (sa y.c) y.key.length y.key.length] t)) fun h2=>im e 2 32 #[vu 0,.slice none 0 0] a.a a.n a.c (some (nb h)) 1 h2 K:=by
 have hn:=x.len
 refine x.gl.add (arr:=#[vu (y.hs:Int),.slice (sa y.c) y.key.length y.key.length]) ZR rfl rfl (fun v hv=>by
  simp at hv;rcases hv with rfl|rfl<;>rfl) (by omega) (by omega) fun a' c' h' jK gl k nw=>hK a' c' h' jK ⟨?_,fun w hw=>?_,?_⟩ k nw
 ·rw [gW]
  exact gl
 ·have lt:∀w:Nm,eM h w.c (w.key.map bv)→ob≠some w.c→eM h' w.c (w.key.map bv)∧jK≠some w.c:=fun w hw ho=>⟨bF k hw ho,fun e=>(nw _ e).elim ho fun hl=>by have:=eE hw;omega⟩
  rcases bI.1 hw with hw|hw
  ·obtain⟨r1,r2,r3⟩:=x.row w hw
   obtain⟨q1,q2⟩:=lt w r1 r3
   exact⟨q1,r2,q2⟩
  ·rw [bM.1 hw]
   obtain⟨q1,q2⟩:=lt y hr hyo
   exact⟨q1,hy0,q2⟩
 ·rw [cx,cu]
  refine⟨x.CV,by simp,fun u hu w hw e=>?_⟩
  obtain⟨w0,Ua,rfl⟩:=cy.1 hu
  have:w=y.c:=by simpa using hw
  exact hyn w0 Ua (e.trans this)
theorem Z6(p0:qA h0 q s nd tb hn T)(k:bY N h0 h)(x:NL h0 h a ob l){aid i:Nat}{c:List iM}(hA:nd[aid]?=some m)(hr:m.cY[i]?=some (lL c)) (iA:aid∈T.dN) (hsg:BI nd c 0) (hc:∀y∈c,y∈T.dc) (o0:l.length+c.length≤400000000)
  (hR:∀a' jK h' l',NL h0 h' a' jK (l++l')→l'.map Nm.hk=c.map iM.hk→bY (fun b=>ob=some b) h h'→(∀b,jK=some b→ob=some b∨h.size≤b)→(∀y∈l',h.size≤y.c)→R (.slice a'.a a'.n a'.c) h') :
  bq PG 109 #[vp (sa tb),.slice a.a a.n a.c,uv (s.fk aid),vi (i:Nat)] h R:=by
 refine YC ?_
 unfold afu
 have p:=p0.cI k
 refine F9 p.g p.l hA (p.da iA) hr rfl ⟨_,rfl,?_⟩
 refine MI (s1:=a) (fun k2 s0 s1 s9 h2=>∃(IW:Option Nat) (l':List Nm) (r:List iM),k2=r.length∧some (ad tb)=s0∧((s.fk (lL r):Nat):Int)=s9∧BI nd r 0∧(∀y∈r,y∈T.dc)∧NL h0 h2 s1 IW (l++l')∧l'.map Nm.hk++r.map iM.hk=c.map iM.hk∧bY (fun b=>ob=some b) h h2∧(∀b,IW=some b→ob=some b∨h.size≤b)∧(∀y∈l',h.size≤y.c)) c.length
  ⟨ob,[],c,rfl,rfl,rfl,hsg,hc,by rw [eV];exact x,rfl,bY.refl _ _,fun b h=>.inl h,nofun⟩ ?_
 rintro k2 s0 s1 s9 g h2 ⟨IW,l',r,rfl,rfl,rfl,sg,hr,x2,el,k2,nw,ny⟩
 unfold Pr
 cases r with
 |nil =>
  refine cj (by show ((s.fk 0:Int) != 0)=false;rw [RS.iQ];rfl) ?_
  exact hR s1 IW h2 l' x2 (by simpa using el) k2 nw ny
 |cons y r =>
  have kN:bY N h0 h2:=cL k k2 fun b e=>x.gl.new b e
  have p2:=p0.cI kN
  have hy:=hr y (bQ ..)
  have hh:=p2.da (TD.pq hy)
  have hhk:=p2.da (TD.EZ hy)
  obtain⟨GY,hkn,ok⟩:=sg.1
  have hl:=x2.len
  have YU:l'.length+(r.length+1)=c.length:=by
   have:=congrArg List.length el
   simpa using this
  refine cr (by rw [bne_iff_ne];have:=RS.un p2.g.v hh;show (s.fk y.e:Int)≠0;omega) (bw ⟨_,p2.l.c0,?_⟩)
  refine F9 p2.g p2.l GY hh (k:=1) rfl rfl ⟨_,rfl,⟨_,p2.l.c0,rfl⟩,?_⟩
  refine agL p2.g hhk hkn ok fun cb h3 zQ GZ k3=>⟨⟨some (ad cb),y.key.length,y.key.length⟩,_,rfl,?_⟩
  have p3:=p2.cI k3
  have x3:=x2.cI k3
  refine Ec p3.g p3.l GY hh (k:=0) rfl rfl ⟨_,rfl,?_⟩
  have ani:∀w∈l++l',w.c≠cb:=fun w hw e=>by
   have:=eE (x2.row w hw).1;omega
  refine x3.add (y:=⟨y.hs,y.key,cb⟩) (bP kN.1 k3.1) zQ (bP kN.1 GZ) (fun e=>by have:cb<h2.size:=x2.gl.lt e;omega) ani (by rw [bG];omega) fun a' c' h4 ob4 x4 k4 nw4=>?_
  have kN4:bY N h0 h4:=cL (cL kN k3 fun _ z=>z.elim) k4 fun b e=>x2.gl.new b e
  have p4:=p0.cI kN4
  refine F9 p4.g p4.l GY hh (k:=0) rfl rfl ⟨_,rfl,r.length,by simp,ob4,l'++[⟨y.hs,y.key,cb⟩],r,rfl,rfl,rfl,sg.2,fun w hw=>hr w (bJ _ hw),by rw [←ce];exact x4,?_,?_,fun b e=>?_,fun w hw=>?_⟩
  ·rw [←el];simp [Nm.hk,iM.hk]
  ·refine⟨bP k2.1 (bP k3.1 k4.1),fun i hi hs=>?_⟩
   have h1:=k2.2 i hi hs
   have hi2:i<h2.size:=bZ hi k2.1
   have h3':=k3.2 i hi2 _root_.id
   have h4':=k4.2 i (bZ hi2 k3.1) fun e=>(nw i e).elim hs fun hl=>by omega
   exact(h4'.trans h3').trans h1
  ·rcases nw4 b e with h|h
   ·exact nw b h
   ·exact .inr (bP k2.1 (bP k3.1 h))
  ·rcases bI.1 hw with hw|hw
   ·exact ny w hw
   ·rw [bM.1 hw];exact bP k2.1 GZ
end
section
open Go.Proofs Go.Shelf Go.RowKit Go.Lib Go.Sort
theorem Rc {w w':World}(s:gj w w')(k:bY (fun _=>False) w.heap w'.heap):∃q os,w'=grow (w.drewN q) os:=by
 obtain⟨hp,tp,dr,os,out⟩:=w
 obtain⟨HV,tp',dr',DB,ay1⟩:=w'
 obtain⟨s1,s2,s3,s4⟩:=s
 simp only at s1 s2 s3 s4 k
 subst s1 s2 s3
 refine⟨dr'-dr,HV.extract hp.size,?_⟩
 have e1:dr+(dr'-dr)=dr':=by omega
 have e2:hp++HV.extract hp.size=HV:=by
  apply my
  intro i
  rw [Array.getElem?_append]
  split
  ·rename_i hi
   exact(k.2 i hi (fun f=>f)).symm
  ·rename_i hi
   rw [Array.getElem?_extract]
   split
   ·rw [show hp.size+(i-hp.size)=i by omega]
   ·rename_i h2
    rw [jh (by omega)]
 unfold grow World.drewN
 simp only [e1,e2]
section
variable {β:Type} [Inhabited β]
theorem qu(d:Array β)(i:Nat)(hi:i<d.size):d[i]! = d.toList[i]'(by simpa using hi):=by
 rw [getElem!_pos d i hi];rfl
theorem GI(enc:β→Value)(d:Array β)(A ic:LV)(hA:A.length=d.size):putCells enc 0 d (A++ic).toArray=(d.toList.map enc++ic).toArray:=by
 apply my
 intro i
 unfold putCells
 rw [Array.getElem?_mapIdx]
 rw [show ((d.toList.map enc++ic).toArray)[i]?=(d.toList.map enc++ic)[i]? from pZ ..,List.getElem?_append,bA,fx,show (A++ic).toArray[i]?=(A++ic)[i]? from pZ ..,List.getElem?_append,hA]
 by_cases hi:i<d.size
 ·rw [if_pos hi,if_pos hi,br (by omega),dR,if_pos ⟨cP _,by omega⟩,bD,br (by simpa using hi),dR,Nat.sub_zero,qu d i hi]
 ·rw [if_neg hi,if_neg hi]
  cases ic[i-d.size]? with
  |none=>rfl
  |some v=>rw [dR,if_neg (by omega)]
theorem tP(enc:β→Value)(w:World)(b n:Nat)(d:Array β)(os:Array Obj){A ic:LV}(hr:eM w.heap b (A++ic)) (hA:A.length=d.size) :
  bY (fun x=>x=b) w.heap (grow (putRow enc (Sort.ahead w n) b 0 d) os).heap∧eM (grow (putRow enc (Sort.ahead w n) b 0 d) os).heap b (d.toList.map enc++ic):=by
 have hb:=eE hr
 have hs:(putRow enc (Sort.ahead w n) b 0 d).heap.size=w.heap.size:=Go.Sort.size_putRow enc (Sort.ahead w n) b 0 d
 have LG:∀c,c<w.heap.size→(grow (putRow enc (Sort.ahead w n) b 0 d) os).heap[c]?=(putRow enc (Sort.ahead w n) b 0 d).heap[c]?:=fun c hc=>by
  unfold grow
  simp only
  rw [nJ (by omega)]
 refine⟨⟨by rw [size_grow,hs];omega,fun c hc iS=>?_⟩,?_⟩
 ·rw [LG c hc]
  unfold putRow mapBlock
  simp only
  rw [gY,if_neg (fun e=>iS e.symm)]
  rfl
 ·obtain⟨t,ht⟩:=hr
  refine⟨t,?_⟩
  rw [LG b hb]
  unfold putRow mapBlock
  simp only
  have LB:(Sort.ahead w n).heap[b]?=some (.cells (A++ic).toArray t (0,0)):=ht
  rw [gY,if_pos rfl,LB,dR]
  unfold onCells
  simp only
  rw [GI enc d A ic hA]
theorem HW(enc:β→Value)(w:World)(b:Nat)(d:Array β){ic:LV}(hr:eM w.heap b (d.toList.map enc++ic)):Holds enc w b 0 d:=by
 intro j hj
 constructor
 ·have:=bS hr j
  rw [bL (by simpa using hj),bD,br (by simpa using hj),dR,←qu d j hj]at this
  rw [fo]
  exact this
 ·rw [fo]
  exact Rg hr j
end
section
variable {α:Type} [Inhabited α]
theorem OJ(enc:α→LV)(k:Nat)(hk:∀x,(enc x).length=k) (d:Array α):(flatK enc k d).toList.map id=d.toList.flatMap enc:=by
 rw [List.map_id]
 apply cG
 intro i
 by_cases hi:i<d.size*k
 ·have k0:0<k:=by
   rcases oJ k with h|h
   ·subst h;omega
   ·exact h
  have hq:i / k<d.size:=Nat.div_lt_of_lt_mul (by rw [jF];exact hi)
  have hm:i%k<k:=jB _ k0
  have h1:=ml hk d.toList (i / k) (i%k) (d.toList[i / k]'(by simpa using hq)) (br _) hm
  have e:i / k*k+i%k=i:=by have:=Nat.div_add_mod i k;rw [jF]at this;exact this
  rw [e]at h1
  rw [h1]
  have h2:=get_flatK enc k d i hi
  rw [qu _ i (by rw [size_flatK];exact hi),qu d (i / k) hq]at h2
  rw [br (by rw [fx,size_flatK];exact hi),h2]
  rw [br (by rw [hk];exact hm),getElem!_pos _ _ (by rw [hk];exact hm)]
 ·rw [bV (by rw [fx,size_flatK];omega),bV (by rw [gN hk,fx];omega)]
theorem CT {d d':Array α}(h:PermIn 0 d.size d d'):d'.toList.Perm d.toList:=by
 obtain⟨h1,_,h3⟩:=h
 have e1:d.extract 0 d.size=d:=Array.extract_size
 have e2:d'.extract 0 d.size=d':=by rw [←h1];exact Array.extract_size
 rw [e1,e2]at h3
 exact h3
theorem zl {lt:α→α→Bool}{d d':Array α}(hs:d'.size=d.size)(h:SortedIn lt 0 d.size d'):d'.toList.Pairwise fun x y=>lt y x=false:=by
 rw [List.pairwise_iff_getElem]
 intro i j hi hj zc
 have Jh:i<d'.size:=by simpa using hi
 have hj':j<d'.size:=by simpa using hj
 have:=h i j (cP _) zc (by omega)
 rw [qu _ _ Jh,qu _ _ hj']at this
 exact this
end
theorem Qp {γ:Type}{ok:γ→Prop}{cf:γ→γ→Int}(h:SWO (ltOf cf)):SWO (ltOf fun x y:{a // ok a}=>cf x.1 y.1) :=
 ⟨fun x=>h.irrefl x.1,fun x y z=>h.trans x.1 y.1 z.1,fun x y z=>h.ntrans x.1 y.1 z.1⟩
section
variable {P:Program} {ρ:Ren} {γ:Type} {h:Hp} {R:RP}
theorem unattach {ok:γ→Prop}(l:List γ)(hl:∀x∈l,ok x):∃d:List {a // ok a},d.map (·.1)=l:=by
 induction l with
 |nil=>exact⟨[],rfl⟩
 |cons x l ih =>
  obtain⟨d,hd⟩:=ih fun y hy=>hl y (.tail _ hy)
  exact⟨⟨x,hl x (.head _)⟩::d,by rw [cU,hd]⟩
theorem akW(L:SlLaysF0.n6 P ρ)(k:Nat)(aE:∀w,(isAgg (ρ.t 24)).run P w=.ok true w) (zE:∀w,(Go.sizeOf (ρ.t 24)).run P w=.ok k w) (enc:γ→LV) (hk:∀x,(enc x).length=k) (h1:∀x,∀v∈enc x,v.oneCell'=true) (cf:γ→γ→Int) (hO:SWO (ltOf cf)) (g:Nat)
  (eg:∀args w,(callFunc g args).run P w=.ok (.enter g args) w) (ok:γ→Prop) (b cap:Nat) (l:List γ) (ic:LV) (iS:l≠[])
  (ah3:∀h2,bY (fun x=>x=b) h h2→∀x y,ok x→ok y→bq P g #[.agg (enc x).toArray,.agg (enc y).toArray] h2 fun v h3=>v=vi (cf x y)∧bY (fun _=>False) h2 h3)
  (vV:∀x∈l,ok x) (hr:eM h b (l.flatMap enc++ic)) (vF:l.length<4611686018427387904)
  (hR:∀(l':List γ) (h':Hp),l'.Perm l→l'.Pairwise (fun x y=>ltOf cf y x=false)→eM h' b (l'.flatMap enc++ic)→bY (fun x=>x=b) h h'→R (vt #[]) h') :
  bq P (ρ.f 6) #[.slice (some ⟨b,0,none⟩) l.length cap,.func (.func g) #[] #[]] h R:=by
 intro w hw
 subst hw
 obtain⟨d,hd⟩:=unattach l vV
 obtain⟨x0,tF⟩:=lh l iS
 haveI:Inhabited {a // ok a}:=⟨⟨x0,vV x0 tF⟩⟩
 have hke:∀x:{a // ok a},(enc x.1).length=k:=fun x=>hk x.1
 have C2:∀dd:Array {a // ok a},(flatK (fun x=>enc x.1) k dd).toList.map id=(dd.toList.map (·.1)).flatMap enc:=fun dd=>by
  rw [OJ (fun x:{a // ok a}=>enc x.1) k hke dd,qE]
 have Uf:d.length=l.length:=by rw [←hd,bA]
 have vg:(l.flatMap enc).length=d.toArray.size*k:=by rw [gN hk,fZ,Uf]
 have oZ:eM w.heap b ((flatK (fun x:{a // ok a}=>enc x.1) k d.toArray).toList.map id++ic):=by rw [C2,List.toList_toArray,hd];exact hr
 have hH:HoldsK (fun x:{a // ok a}=>enc x.1) k w b 0 d.toArray:=HW id w b _ oZ
 have hC:CmpLays P g #[] (fun x:{a // ok a}=>enc x.1) k (fun x y=>cf x.1 y.1) b 0 d.toArray.size w:=by
  intro m os dk hdk x y
  have hk2:=(tP id w b m (flatK (fun x:{a // ok a}=>enc x.1) k dk) os (A:=l.flatMap enc) (ic:=ic) hr (by rw [size_flatK,hdk];exact vg)).1
  refine(ah3 _ hk2 x.1 y.1 x.2 y.2 _ rfl).mono fun e w' hE=>?_
  obtain⟨v,he,hs,hv,hkk⟩:=hE
  obtain⟨q,DB,hq⟩:=Rc hs hkk
  exact⟨by rw [he,hv],q,DB,hq⟩
 have:=AnyQ.slices_SortFunc L k aE zE (fun x:{a // ok a}=>enc x.1) hke (fun x=>h1 x.1) (fun x y=>cf x.1 y.1) (Qp hO) g #[] b 0 cap d.toArray w eg hC hH (eE hr) (by rw [fZ,Uf];exact vF)
 rw [fZ,Uf]at this
 refine this.mono fun e w' hE=>?_
 obtain⟨he,d',n,os,hp,hs,On⟩:=hE
 have Wo:d'.size=d.toArray.size:=hp.1
 have HV:d'.toList.Perm d:=by
  have:=CT (d:=d.toArray) (d':=d') (by rw [fZ,Uf];exact hp)
  exact this
 have nq:=zl (d:=d.toArray) (d':=d') Wo (by rw [fZ,Uf];exact hs)
 obtain⟨q1,q2⟩:=tP id w b n (flatK (fun x:{a // ok a}=>enc x.1) k d') os (A:=l.flatMap enc) (ic:=ic) hr (by rw [size_flatK,Wo];exact vg)
 rw [C2]at q2
 refine⟨vt #[],he,?_,?_⟩
 ·rw [On]
  exact⟨rfl,rfl,rfl,qC _ _⟩
 ·rw [On]
  refine hR _ _ (hd▸HV.map _) ?_ q2 q1
  rw [lD]
  exact nq
theorem akX(L:SlLaysF.n6 P ρ)(enc:γ→Value)(h1:∀x,(enc x).oneCell'=true) (cf:γ→γ→Int) (hO:SWO (ltOf cf)) (g:Nat)
  (eg:∀args w,(callFunc g args).run P w=.ok (.enter g args) w) (ok:γ→Prop) (b cap:Nat) (l:List γ) (ic:LV) (iS:l≠[])
  (ah3:∀h2,bY (fun x=>x=b) h h2→∀x y,ok x→ok y→bq P g #[enc x,enc y] h2 fun v h3=>v=vi (cf x y)∧bY (fun _=>False) h2 h3)
  (vV:∀x∈l,ok x) (hr:eM h b (l.map enc++ic)) (vF:l.length<4611686018427387904)
  (hR:∀(l':List γ) (h':Hp),l'.Perm l→l'.Pairwise (fun x y=>ltOf cf y x=false)→eM h' b (l'.map enc++ic)→bY (fun x=>x=b) h h'→R (vt #[]) h') :
  bq P (ρ.f 6) #[.slice (some ⟨b,0,none⟩) l.length cap,.func (.func g) #[] #[]] h R:=by
 intro w hw
 subst hw
 obtain⟨d,hd⟩:=unattach l vV
 obtain⟨x0,tF⟩:=lh l iS
 haveI:Inhabited {a // ok a}:=⟨⟨x0,vV x0 tF⟩⟩
 have C2:∀dd:List {a // ok a},dd.map (fun x=>enc x.1)=(dd.map (·.1)).map enc:=fun dd=>by rw [fh];rfl
 have Uf:d.length=l.length:=by rw [←hd,bA]
 have oZ:eM w.heap b (d.toArray.toList.map (fun x=>enc x.1)++ic):=by rw [C2,List.toList_toArray,hd];exact hr
 have hH:Holds (fun x:{a // ok a}=>enc x.1) w b 0 d.toArray:=HW _ w b _ oZ
 have hC:CmpLays1 P g #[] (fun x:{a // ok a}=>enc x.1) (fun x y=>cf x.1 y.1) b 0 d.toArray.size w:=by
  intro m os dk hdk x y
  have hk2:=(tP (fun x:{a // ok a}=>enc x.1) w b m dk os (A:=l.map enc) (ic:=ic) hr (by rw [bA,hdk,fZ,Uf])).1
  refine(ah3 _ hk2 x.1 y.1 x.2 y.2 _ rfl).mono fun e w' hE=>?_
  obtain⟨v,he,hs,hv,hkk⟩:=hE
  obtain⟨q,DB,hq⟩:=Rc hs hkk
  exact⟨by rw [he,hv],q,DB,hq⟩
 have:=Any.slices_SortFunc L (fun x:{a // ok a}=>enc x.1) (fun x=>h1 x.1) (fun x y=>cf x.1 y.1) (Qp hO) g #[] b 0 cap d.toArray w eg hC hH (eE hr) (by rw [fZ,Uf];exact vF)
 rw [fZ,Uf]at this
 refine this.mono fun e w' hE=>?_
 obtain⟨he,d',n,os,hp,hs,On⟩:=hE
 have Wo:d'.size=d.toArray.size:=hp.1
 have HV:d'.toList.Perm d:=by
  have:=CT (d:=d.toArray) (d':=d') (by rw [fZ,Uf];exact hp)
  exact this
 have nq:=zl (d:=d.toArray) (d':=d') Wo (by rw [fZ,Uf];exact hs)
 obtain⟨q1,q2⟩:=tP (fun x:{a // ok a}=>enc x.1) w b n d' os (A:=l.map enc) (ic:=ic) hr (by rw [bA,Wo,fZ,Uf])
 rw [C2]at q2
 refine⟨vt #[],he,?_,?_⟩
 ·rw [On]
  exact⟨rfl,rfl,rfl,qC _ _⟩
 ·rw [On]
  refine hR _ _ (hd▸HV.map _) ?_ q2 q1
  rw [lD]
  exact nq
theorem US(L:SlLaysF0.n6 P ρ)(p:OA)(c:Nat)(fv:Value)(hR:R (vt #[]) h):bq P (ρ.f 6) #[.slice p 0 c,fv] h R:=by
 intro w hw
 subst hw
 exact(AnyF.slices_SortFunc_none L p c fv w).mono fun e w' hE=>by
  obtain⟨he,On⟩:=hE
  subst On
  exact⟨_,he,gj.refl _,hR⟩
end
end
end Go.Ev
