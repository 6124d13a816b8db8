/- TableViews. No condition. -/
import Derived.Test.YtjigacanjlppiaaGreatDoorQ17
set_option linter.all false
set_option maxRecDepth 1000000
open Go.IntKind (wrap)
namespace Go.Ev
open Go.Proofs
def VwJ(h h1:Hp)(tb m0 Ud L m:Nat)(s1:Addr)(s3 s4 s5:OA)(s7:Int)(g:Hp):Prop :=
 ∃(i:Nat) (q:HQ) (s:RS) (nd:List di) (T:TD) (A:AT),s1=ad h.size∧s3=some (ad tb)∧s4=some (ad q.hb)∧s5=some (ad m0)∧s7=(i:Int)∧m+i=L∧A.m.length≤i∧aN 301 g q s nd tb 1 T A∧qA g q s nd m0 Ud T∧bY N h1 g∧aX h1 q
section
variable {h h' h2 g h1 hb h4:Hp} {q q':HQ} {s s' s2 s1:RS} {nd gm:List di} {tb hn m0 Ud tbv hnv i M L:Nat} {T T':TD} {A:AT} {k key kb:LN} {R:RP} {a c a2 a3:Sl} {ob:Option Nat} {o:aP} {ks:List (LN)} {ops:List aP} {n0:Int} {sd:Nat}
theorem aN.view(x:aN M h q s nd tb hn T A)(p:qA h q s nd m0 Ud T):aN M h q s nd m0 Ud T A:=⟨p,x.o,x.y,x.s1,x.s2,x.iN,x.rl,x.crq⟩
theorem ayT {t:Bool}{X Y:Prop}(a:X)(b:Y):bX t X Y:=by cases t;exact b;exact a
theorem azg {n1 b8:Nat}(x:aN 301 h' q s nd tb 1 T (A.step o)) (p:qA h' q s nd m0 Ud T) (k:bY N h1 h') (f:aX h1 q) (ok:o.Ok h1) (r:eM h' b8 o.cells) (hm:n1+i=L) (hi:i<L) (hA:A.m.length≤i) (hL:L≤300) :
  axU (VwJ h h1 tb m0 Ud L) n1 (ad h.size) (sa tb) (sa q.hb) (sa m0) (i:Int) (ad b8) false h' R:=by
 unfold axU
 have sr:=ok.src k f
 have wi:wrap .i64 ((i:Int)+1)=((i+1:Nat):Int):=by rw [bU (by omega) (by omega)];omega
 have hA2:(A.step o).m.length≤i+1:=by have:=A.u7 o;omega
 have kn:o.key.n=o.kb.length:=ok.kk.n
 refine cj rfl ⟨o.key,ia r rfl,?_⟩
 have next:∀g,bY N h' g→∃m,m<n1∧VwJ h h1 tb m0 Ud L m (ad h.size) (sa tb) (sa q.hb) (sa m0) (wrap .i64 ((i:Int)+1)) g:=fun g kg =>
  ⟨n1-1,by omega,i+1,q,s,nd,T,A.step o,rfl,rfl,rfl,rfl,wi,by omega,hA2,x.cI kg,p.cI kg,k.trans kg,f⟩
 refine ame (x.view p) sr ok.kk.len (fun wX g kg=>⟨_,_,_,_,rfl,?_⟩) fun w v g xK kg _=>⟨_,_,_,_,rfl,?_⟩
 ·have r2:=bF kg r _root_.id
  refine⟨_,(bS r2 0).trans rfl,?_⟩
  have go:∃akO:Bool,cell g (ad b8)=some (vb akO)∧bX akO (bX ((63:Int) != (63:Int)) (R (vb false:Value) g) (∃m,m<n1∧VwJ h h1 tb m0 Ud L m (ad h.size) (sa tb) (sa q.hb) (sa m0) (wrap .i64 ((i:Int)+1)) g)) (∃m,m<n1∧VwJ h h1 tb m0 Ud L m (ad h.size) (sa tb) (sa q.hb) (sa m0) (wrap .i64 ((i:Int)+1)) g) :=
   ⟨_,(bS r2 0).trans rfl,ayT (cj rfl (next g kg)) (next g kg)⟩
  cases hg:o.gone with
  |true=>exact cj rfl go
  |false =>
   refine cr rfl ⟨o.key,ia r2 rfl,ca (fun uc=>?_) fun _=>go⟩
   exfalso
   have e:=A.aoQ (o:=o) (by omega)
   rw [wX,hg,if_neg (by simp)]at e
   cases e
 ·have r2:=bF kg r _root_.id
  refine⟨_,(bS r2 0).trans rfl,?_⟩
  cases hg:o.gone with
  |true =>
   exfalso
   have e:(A.step o).Bz o.kb=none:=by
    unfold AT.step
    rw [hg,if_pos rfl,A.anp,if_pos rfl]
   rw [xK]at e
   cases e
  |false =>
   have go:∃akO:Bool,cell g (ad b8)=some (vb akO)∧bX akO (bX ((0:Int) != (63:Int)) (R (vb false:Value) g) (∃m,m<n1∧VwJ h h1 tb m0 Ud L m (ad h.size) (sa tb) (sa q.hb) (sa m0) (wrap .i64 ((i:Int)+1)) g)) (∃m,m<n1∧VwJ h h1 tb m0 Ud L m (ad h.size) (sa tb) (sa q.hb) (sa m0) (wrap .i64 ((i:Int)+1)) g) :=
    ⟨_,(bS r2 0).trans rfl,cj hg (next g kg)⟩
   refine cr rfl ⟨o.key,ia r2 rfl,ca (fun uc=>?_) fun _=>go⟩
   have e:=A.aoQ (o:=o) (by omega)
   rw [xK,hg,if_neg (by simp)]at e
   obtain rfl:w=(evn o.n,o.a,o.b):=congrArg Prod.snd (bt e)
   exact cj rfl ⟨_,ia r2 rfl,cj (bne_self_eq_false _) go⟩
theorem ayy {n1 b8:Nat}(x:aN 301 g q s nd tb 1 T A)(p:qA g q s nd m0 Ud T)(k:bY N h1 g)(f:aX h1 q)(ok:o.Ok h1)(r:eM g b8 o.cells)(ho:q.bR b8=.out)(hm:n1+i=L)(hi:i<L)(hA:A.m.length≤i)(hL:L≤300)(pvq:qA g q s nd tbv hnv T):
  aze (VwJ h h1 tb m0 Ud L) n1 (ad h.size) (sa tb) (sa q.hb) (sa m0) (i:Int) (ad b8) (sa tbv) g R:=by
 unfold aze
 refine⟨_,(bS r 0).trans rfl,o.key,ia r rfl,_,ia r rfl,_,ia r rfl,_,ia r rfl,?_⟩
 refine al0 (x.view pvq) (ok.cI k) (fun p hp hn=>f.Tw (ok.kk.src p hp hn)) (by omega) fun g2 q' s' gm T' a2' y2=>⟨_,rfl,?_⟩
 have x2:aN 301 g2 q' s' gm tb 1 T' (A.step o):=y2.view (a2'.jp x.p)
 have p2:=a2'.jp p
 have k2:=f.gK k a2'.ex
 have f2:=f.ex k.1 a2'.ex
 have r2:=a2'.row r ho
 rw [←a2'.ex.1]
 refine anq (A.as5 o) ?_
 refine zN x2.p.g x2.p.l x2.p.pos x2.p.held ⟨_,rfl,zN p2.g p2.l p2.pos p2.held ⟨_,rfl,cj (bne_self_eq_false _) ?_⟩⟩
 refine atb x2 ⟨_,rfl,atb (x2.view p2) ⟨_,rfl,cj (bne_self_eq_false _) ?_⟩⟩
 refine al4 x2 fun g3 k3=>⟨_,_,_,_,rfl,al4 ((x2.view p2).cI k3) fun g4 k4=>⟨_,_,_,_,rfl,cj (by simp) ?_⟩⟩
 have k34:=k3.trans k4
 have r4:=bF k34 r2 _root_.id
 have k5:=k2.trans k34
 refine⟨o.key,ia r4 rfl,?_⟩
 refine ars (x2.cI k34) ((x2.view p2).cI k34) (fT _) (ok.src k5 f2) (ok.src k5 f2) ok.kk.len fun g5 k6=>⟨_,rfl,?_⟩
 have k36:=k34.trans k6
 exact azg (x2.cI k36) (p2.cI k36) (k2.trans k36) f2 ok (bF k6 r4 _root_.id) hm hi hA hL
theorem azM(tb1:h1.size≤tb)(p2:qA h q s nd m0 Ud T)(y:aQ T A)(k:bY N h1 h)(f:aX h1 q)(l:ti h q tb 0)(ks0:KS h a ks)(pe:ks.Perm A.su)(pw:ks.Pairwise HN)(hR:∀h',bY N h1 h'→R (vb true) h') :
  ax7 (sa tb) (sa m0) a false h R:=by
 unfold ax7
 refine cj rfl (dh fun ha ea=>bw (dh fun hb eb=>?_))
 obtain⟨kb,_,_⟩:=ant h
 rw [ea]at eb
 rw [show (nb h).block=h.size from rfl]at eb
 rw [←eb]at kb
 refine Sh (a:=⟨some (ad h.size),1,1⟩) (l.cI kb) ⟨_,_,rfl,dh fun hc ec=>bw (dh fun hd ed=>?_)⟩
 obtain⟨kd,_,_⟩:=ant hb
 rw [ec]at ed
 rw [show (nb hb).block=hb.size from rfl]at ed
 rw [←ed]at kd
 have kk:=kb.trans kd
 refine Ix (a:=⟨some (ad hb.size),1,1⟩) (l.cI kk) ⟨_,rfl,cr rfl (cr rfl (cr rfl ?_))⟩
 have p3:=p2.cI kk
 have o0:ks.length=T.dc.length:=by rw [pe.length_eq,y.kp.length_eq,bA]
 have HX:=p2.len
 refine akv p3 y.k fun a6q ob gw g6 bl hp6 pw6 _ k6=>⟨a6q,rfl,?_⟩
 have ks6:KS g6 a6q (gw.map (·.key)):=bl.KA fun z hz=>by
  have hm:=hp6.mem_iff.1 (cy.2 ⟨z,hz,rfl⟩)
  obtain⟨e,he,ee⟩:=cy.1 hm
  obtain⟨n,ok,_⟩:=p3.c.Uj he
  have:=ok.2.2.len
  have ee:e.key=z.key:=ee
  rw [←ee];omega
 have es:gw.map (·.key)=ks:=amD (hp6.trans (y.kp.symm.trans pe.symm)) pw6 pw
 rw [es]at ks6
 refine JR ks6 ((ks0.cI kk).cI k6) (by omega) ⟨_,rfl,cr (decide_eq_true rfl) ?_⟩
 refine Z4 (p3.cI k6).tr (by omega) ⟨_,rfl,?_⟩
 rw [ks0.n,o0,beq_self_eq_true]
 exact hR g6 (k.trans (kk.trans k6))
theorem aAm (tz:eM h BF (Nt.map fun n=>.int .u8 (n:Nat))) (t6:sd<18446744073709551616) (st:aT h a2 ops) (hR:∀h',bY N h h'→R (vb true) h') :
  bq PG 11 #[.agg #[uv sd,vi n0,.slice a2.a a2.n a2.c,.slice a3.a a3.n a3.c]] h R:=by
 refine aAX (pF:=(sd:Int)) ?_
 unfold aBx
 refine dh fun h1 e1=>?_
 have k1:bY N h h1:=e1▸cF _ _ _
 have r1:eM h1 h.size [uv sd,vi n0,.slice a2.a a2.n a2.c,.slice a3.a a3.n a3.c]:=e1▸du h #[uv sd,vi n0,.slice a2.a a2.n a2.c,.slice a3.a a3.n a3.c] 30
 clear e1
 rw [show nb h=ad h.size from rfl]
 have tz1:=bF k1 tz _root_.id
 have hz1:=eE tz1
 have st1:=st.cI k1
 have sn:=st.n
 refine alZ tz1 fun h2 k2=>⟨_,rfl,cj rfl ?_⟩
 have r2:=bF k2 r1 _root_.id
 refine⟨_,(bS r2 0).trans rfl,?_⟩
 refine avw (M:=301) (iN:=1000000) (bF k2 tz1 _root_.id) (by omega) (by omega) t6 fun h3 q s nd tb T x3 k3 fr3 tbg tbl rl1=>⟨_,_,rfl,?_⟩
 have r3:=bF k3 r2 _root_.id
 have k13:=k2.trans k3
 refine cj rfl ⟨a2,ia r3 rfl,?_⟩
 unfold aAR
 refine ca (fun fE=>hR h3 (k1.trans k13)) fun o5=>?_
 have o0:ops.length≤300:=by omega
 refine zN x3.p.g x3.p.l x3.p.pos x3.p.held ⟨_,rfl,?_⟩
 have aBc:=fr3.arF k2.1
 refine akp x3.p.g x3.p.tz (by have:=x3.rl;omega) x3.p.c (x3.p.da T.jO) fun h4 q4 s4 m0 p4 aBP er4 ZS aBm aBB aBA=>⟨_,_,rfl,cj rfl ?_⟩
 have iS:=x3.p.QT
 have k14:=aBc.gK k13 ZS
 have f14:=aBc.ex k13.1 ZS
 have cr3:=x3.crq
 have x4:aN 301 h4 q4 s4 nd tb 1 T (AT.new sd):=by
  refine⟨⟨p4.g,x3.p.l.ex ZS,x3.p.pos,x3.p.lt,?_,x3.p.c,p4.tz⟩,⟨fun r hr=>?_,x3.o.mA⟩,x3.y,x3.s1,x3.s2,by rw [aBP.iN];exact x3.iN,?_,?_⟩
  ·rw [er4,kK,if_neg iS];exact x3.p.held
  ·rw [er4,oP]at hr
   exact hr.elim _root_.id (x3.o.rt r)
  ·rw [er4];have:=BS s.bC T.t;have:=x3.rl;omega
  ·rw [er4,TB]
   have h9:=JW s.bC
   omega
 have Ud:1≤RS.dV s.bC:=by
  have:(1:Nat)-1≠RS.dV s.bC:=iS
  omega
 unfold aAQ
 refine cj rfl ?_
 generalize hh2:RS.dV s.bC+1=aBb at *
 have vW:h1.size≤tb:=bP k2.1 tbg
 have hb3:tb<m0:=bZ tbl aBm
 refine azp (VwJ h h1 tb m0 aBb ops.length) ops.length ⟨0,q4,s4,nd,T,AT.new sd,rfl,rfl,by rw [ZS.1],rfl,rfl,rfl,bH _,x4,p4,k14,f14⟩ ?_
 clear x4 p4 k14 f14 cr3 iS aBP er4 ZS aBm aBB aBA aBc x3 fr3 k3 k13 r3 r2 tbg tbl rl1 k2 o5
 rintro n1 s1 s3 s4 s5 s7-g ⟨i,q,s,nd,T,A,rfl,rfl,rfl,rfl,rfl,hm,hAi,x,p2,kg,f⟩
 unfold aAN
 have rg:=bF kg r1 _root_.id
 have sg:=st1.cI kg
 refine⟨a2,ia rg rfl,ca (fun fE=>?_) fun o5=>?_⟩
 ·have hi:i<ops.length:=by omega
  obtain⟨p,hp,xH,_⟩:=sg.iL i ops[i] (br hi)
  obtain⟨_,_,_,cS⟩:=st1.iL i ops[i] (br hi)
  generalize ops[i]=o at *
  refine⟨a2,ia rg rfl,⟨by omega,fE⟩,cW hp (il xH fun g1 rl kl=>?_)⟩
  have fo1:q.bR g.size=.out:=x.p.g.st.fr (bH _)
  rw [show nb g=ad g.size from rfl]
  refine⟨_,ia rl rfl,by omega,ayT ?_ ?_⟩
  ·exact ayy (x.cI kl) (p2.cI kl) (kg.trans kl) f cS rl fo1 hm hi hAi o0 (p2.cI kl)
  ·exact ayy (x.cI kl) (p2.cI kl) (kg.trans kl) f cS rl fo1 hm hi hAi o0 (x.p.cI kl)
 ·
  refine akv x.p x.y.k fun la ob gw g2 bl hp2 pw2 _ k2=>⟨la,rfl,?_⟩
  have frg:∀b,g.size≤b→q.bR b=.out:=fun b hb=>x.p.g.st.fr hb
  have tbg:tb<g.size:=eE x.p.l.row
  have x2:=x.cI k2
  have p3:=p2.cI k2
  have kg2:=kg.trans k2
  refine agc x2.p fun h5 q5 s5 h6 ex5 k6 g6 aBR er6 l6 o6q=>⟨rfl,Z8 l6 ⟨rfl,?_⟩⟩
  have kg5:=f.gK kg2 ex5
  have f5:=f.ex kg2.1 ex5
  have kg6:bY N h1 h6:=⟨bP kg5.1 k6.1,fun b fV _=>(k6.2 b (bZ fV kg5.1) (by omega)).trans (kg5.2 b fV _root_.id)⟩
  have p6:qA h6 q5 s5 nd m0 aBb T:=by
   refine⟨g6,⟨bF k6 (p3.l.ex ex5).row (by show ¬m0=tb;omega),(p3.l.ex ex5).out⟩,p3.pos,p3.lt,?_,p3.c,⟨bF k6 (p3.tz.ex ex5).row (by show ¬BF=tb;omega),(p3.tz.ex ex5).out⟩⟩
   rw [er6,Ic,if_neg (by omega)]
   exact p3.held
  rw [←ex5.1]
  refine SH g6 fun h7 q7 s7 g7 er7 el7 ex7 _=>⟨rfl,?_⟩
  have kg7:=f5.gK kg6 ex7
  have f7q:=f5.ex kg6.1 ex7
  have p7q:qA h7 q7 s7 nd m0 aBb T:=⟨g7,p6.l.ex ex7,p6.pos,p6.lt,by rw [er7];exact p6.held,p6.c,p6.tz.ex ex7⟩
  have l7:=l6.ex ex7
  have bl5:BL g h5 la ob gw:=bl.eG ex5.gK fun b hb=>⟨fun e=>hb (frg b (bl.gl.new b e)),fun y hy e=>hb (frg b (e▸(bl.row y hy).2.1))⟩
  have bl6:BL g h6 la ob gw:=bl5.eG k6 fun b hb=>by
   have hb:b=tb:=hb
   exact⟨fun e=>by have:=bl.gl.new b e;omega,fun y hy e=>by have:=(bl.row y hy).2.1;omega⟩
  have bl7:BL g h7 la ob gw:=bl6.eG ex7.gK fun b hb=>⟨fun e=>hb (ex5.out (bl.gl.lt e) (frg b (bl.gl.new b e))),fun y hy e=>hb (e▸ex5.out (eE (bl.row y hy).1) (frg _ (bl.row y hy).2.1))⟩
  have ks7:KS h7 la (gw.map (·.key)):=bl7.KA fun z hz=>by
   have hm:=hp2.mem_iff.1 (cy.2 ⟨z,hz,rfl⟩)
   have:=x.arH hm
   omega
  have pe2:(gw.map (·.key)).Perm A.su:=hp2.trans x.y.kp.symm
  refine ac5 g7 l7 ⟨_,rfl,cj rfl (Qg g7 l7 ⟨_,rfl,cj rfl (aga l7 fun g8 k8=>⟨⟨none,0,0⟩,rfl,cj rfl (af4 (g7.cI k8) (l7.cI k8) ⟨_,rfl,cj rfl (Z1 (g7.cI k8) (l7.cI k8) fun g9 k9=>⟨_,_,_,_,rfl,cj rfl (af5 (g7.cI (k8.trans k9)) (l7.cI (k8.trans k9)) (-1) fun g10 k10=>⟨⟨none,0,0⟩,rfl,?_⟩)⟩)⟩)⟩)⟩)⟩
  have kk:=k8.trans (k9.trans k10)
  exact azM vW (p7q.cI kk) x.y (kg7.trans kk) f7q (l7.cI kk) (ks7.cI kk) pe2 pw2 fun h' k'=>hR h' (k1.trans k')
end
end Go.Ev
