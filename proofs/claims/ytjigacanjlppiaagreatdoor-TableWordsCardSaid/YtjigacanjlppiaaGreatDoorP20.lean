/- The play's Close, Ref, and handles beside; w. No condition. -/
import Derived.Test.YtjigacanjlppiaaGreatDoorP19
import Derived.Test.YtjigacanjlppiaaGreatDoorRows
import Derived.ProofKit
import Derived.SizedLaws
import Derived.LaidMore
import Derived.OpenShut
import Derived.JoinedOf
import Derived.SevenTiedAt
set_option linter.all false
set_option maxRecDepth 1000000
open Go.IntKind (wrap)
namespace Go.Ev
open Go.Proofs
section
variable {h h1 h' h2 h3 g:Hp} {pb k i j n tb hn xm bb:Nat} {D D':PL} {q1:HQ} {s1:RS} {nd:List di} {R:RP} {v:VD} {T T':TD} {t t':DT} {o:Kd} {Y':Mem} {W:DW} {Y:Mem} {key mN:LN} {x:zg} {vw:List VD}
theorem Vl {s:RS}(v:s.Inv){a b:Nat}(ha:a=0∨s.da a)(hb:b=0∨s.da b)(e:s.fk a=s.fk b):a=b:=by
 rw [←RS.jy v ha,←RS.jy v hb,e]
theorem aah(hv:vw[j]?=some v){w:VD}(hw:w∈vw):∃w0∈vw.set j {v with jp:=false},w0.tb=w.tb:=by
 obtain⟨i,hi⟩:=bT.1 hw
 have nK:=(bp.1 hv).1
 by_cases e:j=i
 ·subst e
  rw [hv]at hi
  obtain rfl:=bt hi
  exact⟨{v with jp:=false},bx (i:=j) (by rw [eW,if_pos rfl,if_pos nK]),rfl⟩
 ·exact⟨w,bx (i:=i) (by rw [eW,if_neg e];exact hi),rfl⟩
theorem Qh(hv:vw[j]?=some v){w:VD}(hw:w∈vw.set j {v with jp:=false}):∃w0∈vw,w0.tb=w.tb:=by
 rcases dB hw with h|rfl
 ·exact⟨w,h,rfl⟩
 ·exact⟨v,bx hv,rfl⟩
theorem P3.Em (f:P3 h q1 (vw.set j {v with jp:=false})) (hv:vw[j]?=some v):P3 h q1 vw:=fun b hb=>by
 obtain⟨a,b',c⟩:=f b hb
 refine⟨a,b',fun w hw=>?_⟩
 obtain⟨w0,h0,e⟩:=aah hv hw
 exact e▸c w0 h0
theorem PM.ama(m:PM h pb D)(hv:v∈D.vw)(k:bY (fun b=>b=v.tb) h h'):PM h' pb D:=by
 have no:∀b,D.Y.own b→¬b=v.tb:=fun b hb e=>(m.own b hb).2.2 v hv e.symm
 exact⟨m.l0,m.c0,⟨m.wm.sp.eG k no,m.wm.l1,m.wm.c1,m.wm.va,m.wm.ta,m.wm.ba,fun i t ht=>(m.wm.tm i t ht).eG k fun e he z=>(m.su t (bx ht) e he).2 v hv z.symm⟩,m.F5,m.hi,m.li,m.own,m.su,m.Hj,⟨cL m.bs.k k fun b e=>e▸m.bs.v v hv,m.bs.r,m.bs.o,m.bs.v⟩⟩
theorem adY(m:PM h pb D)(r:PR h {D with vw:=D.vw.set j {v with jp:=false}}) (hv:D.vw[j]?=some v) {cs:LV} (r4:eM h xm cs) (h0:cs[0]?=some (vp (sa v.tb))) (hb:¬D.Y.own xm)
  (hR:∀h' Y',PM h' pb {D with Y:=Y',vw:=D.vw.set j {v with jp:=false}}→PR h' {D with Y:=Y',vw:=D.vw.set j {v with jp:=false}}→R (vb true) h'):H5 (sa pb) (j:Int) (ad xm) h R:=by
 have nK:=(bp.1 hv).1
 unfold H5
 refine bw ⟨D.rZ,(m.cl 2).trans rfl,m.agp (r.Tn.Em hv) hv rfl fun h4 Y4 m4 c4=>?_⟩
 have r':PR h4 {D with vw:=D.vw.set j {v with jp:=false}}:=r.rB c4 fun b hb=>by
  obtain⟨a,b',c⟩:=m.own b hb
  refine⟨a,b',fun w hw=>?_⟩
  obtain⟨w0,Ua,e⟩:=Qh hv hw
  exact e▸c w0 Ua
 have l:ti h4 D.q v.tb 0:=(r'.mA {v with jp:=false} (bx (i:=j) (by show (D.vw.set j _)[j]?=_;rw [eW,if_pos rfl,if_pos nK]))).1
 refine⟨_,(bS (bF c4.1 r4 hb) 0).trans h0,Qg r'.g l ⟨_,rfl,?_⟩⟩
 exact hR h4 Y4 m4 ⟨r'.g,r'.tz,r'.mA⟩
theorem agS(x:Pl h pb D k)(hk:k≤200000)(hv:D.vw[j]?=some v)(r4:eM h xm (mB v)) (hb:D.q.bR xm=.out∧¬D.Y.own xm∧∀w∈D.vw,w.tb≠xm)
  (hR:∀h' D',Pl h' pb D' (k+1)→D'.hB=D.hB→R (vb true) h') :
  ∃akL:OA,cell h (ad xm)=some (vp akL)∧bq PG 40 #[vp akL] h fun r Nq=>r=vt #[]∧∃akK:Bool,cell Nq ((ad xm).add 2)=some (vb akK)∧bX akK (bE (sa pb) fun ar5=>∃akJ:OA,cell Nq (ar5.add 1)=some (vp akJ)∧bE akJ fun ar4=>∃UI:Sl,cell Nq (ar4.add 2)=some (.slice UI.a UI.n UI.c)∧∃aac:Int,cell Nq ((ad xm).add 1)=some (vi aac)∧(0≤aac∧aac<(UI.n:Int))∧bE UI.a fun ar3=>∃agf:OA,cell Nq (ar3.add (aac.toNat*1))=some (vp agf)∧bE agf fun ar2=>∃akI:Int,cell Nq (ar2.add 5)=some (vi akI)∧bE agf fun alz=>gZ Nq (alz.add 5)∧gi (fy Nq (alz.add 5) (vi (wrap .i64 (akI-(1:Int))))) fun h18=>H5 (sa pb) (j:Int) (ad xm) h18 R) (H5 (sa pb) (j:Int) (ad xm) Nq R):=by
 have hvm:v∈D.vw:=bx hv
 refine⟨_,(bS r4 0).trans rfl,?_⟩
 cases ho:v.jp with
 |false =>
  have l:=x.Em hvm ho
  refine Z8 l ⟨rfl,v.jp,ia r4 rfl,cj ho ?_⟩
  have ev:({v with jp:=false}:VD)=v:=by rw [←ho]
  have es:D.vw.set j {v with jp:=false}=D.vw:=by rw [ev];exact CG hv
  refine adY x.m (by rw [es];exact x.r) hv r4 rfl hb.2.1 fun h' Y' m' r'=>?_
  rw [es]at m' r'
  exact hR h' _ ⟨m',r',⟨x.w.pg,x.w.hc,x.w.wv,x.w.iN,x.w.n1,by have:=x.w.rl;show D.s.bC.length≤_;omega,by have:=x.w.bd;exact⟨by show D.W.eX.length≤_;omega,by show D.W.de.length≤_;omega,by show D.W.gy.length≤_;omega,by show D.vw.length≤_;omega,by show D.ho.length≤_;omega⟩⟩⟩ rfl
 |true =>
  obtain⟨t,T,ht,hT,hl,Kj,d,op⟩:=x.jp hvm ho
  have h1:=(x.w.hc.close hv ho ht).2
  have cn:=x.w.TC ht
  refine agc op fun h1 q1 s1 h2 ex kt g al er l ro=>⟨rfl,v.jp,?_,cr ho ?_⟩
  ·have r2:eM h2 xm (mB v):=bF kt (bF ex.gK r4 fun z=>z hb.1) fun e=>hb.2.2 v hvm e.symm
   rw [cm];exact(bS r2 2).trans rfl
  have r42:eM h2 xm (mB v):=bF kt (bF ex.gK r4 fun z=>z hb.1) fun e=>hb.2.2 v hvm e.symm
  have m1:PM h1 pb {D with q:=q1,s:=s1,nd:=D.nd}:=x.m.ex ex
  have m2:PM h2 pb {D with q:=q1,s:=s1,nd:=D.nd}:=m1.ama hvm kt
  have r2:PR h2 {D with q:=q1,s:=s1,nd:=D.nd,vw:=D.vw.set j {v with jp:=false}}:=by
   have tz1:=x.r.tz.ex ex
   refine⟨g,⟨bF kt tz1.row fun e=>x.m.Hj.2 v hvm e.symm,tz1.out⟩,fun w hw=>?_⟩
   obtain⟨i,hi⟩:=bT.1 hw
   rcases lP hi with⟨rfl,rfl⟩|⟨iS,hi⟩
   ·exact⟨l,(x.r.mA v hvm).2⟩
   ·have hwm:w∈D.vw:=bx hi
    have l1:=(x.r.mA w hwm).1.ex ex
    have iZ:=(bp.1 hi).1
    refine⟨⟨bF kt l1.row fun e=>iS ?_,l1.out⟩,(x.r.mA w hwm).2⟩
    exact(jV (l:=D.vw.map (·.tb)) (by rw [bA];exact iZ) x.m.Hj.1).1 (by rw [bD,bD,hi,hv];exact congrArg some e)
  have fr2:P3 h2 q1 D.vw:=r2.Tn.Em hv
  refine bw ⟨_,(m2.cl 1).trans rfl,bw ⟨D.W.ts,(m2.wm.cl 2).trans rfl,(v.id:Int),ia r42 rfl,m2.aaa ht rfl (bw ⟨_,((m2.wm.tm v.id t ht).cl m2.wm.sp 5).trans rfl,bw ?_⟩)⟩⟩
  have e1:wrap .i64 ((t.vw:Int)-(1:Int))=((t.vw-1:Nat):Int):=by rw [bU (by omega) (by omega)];omega
  rw [e1]
  refine m2.aak (t':={t with vw:=t.vw-1}) fr2 ht rfl (by omega) rfl rfl rfl rfl fun h3 Y3 m3 c3=>?_
  have asf:∀b,D.Y.own b→q1.bR b=.out∧b≠BF∧∀w∈D.vw.set j {v with jp:=false},w.tb≠b:=fun b hb=>by
   obtain⟨a,b',c⟩:=m2.own b hb
   refine⟨a,b',fun w hw=>?_⟩
   obtain⟨w0,Ua,e⟩:=Qh hv hw
   exact e▸c w0 Ua
  have r3:PR h3 {D with q:=q1,s:=s1,nd:=D.nd,vw:=D.vw.set j {v with jp:=false}}:=r2.rB c3 asf
  refine adY m3 (v:=v) ⟨r3.g,r3.tz,r3.mA⟩ hv (bF c3.1 r42 hb.2.1) rfl (fun z=>?_) fun h' Y' m' r'=>?_
  ·rcases c3.2 xm z with h|h
   ·exact hb.2.1 h
   ·have:=eE r42;omega
  ·exact hR h' _ ⟨m',⟨r'.g,r'.tz,r'.mA⟩,x.w.close hk hv ho ht er al.iN⟩ rfl
theorem amc(x:Pl h pb D k)(hk:k≤200000)(hv:v∈D.vw)(ho:v.jp=true)(ht:D.W.de[v.id]?=some t)(hT:D.to[v.id]?=some T)(hl:t.ib=true)(r5:eM h bb o.cells)(r4:eM h xm (mB v)) (hb:D.q.bR xm=.out∧¬D.Y.own xm)
  (hR:∀h' D',Pl h' pb D' (k+1)→D'.hB=D.hB→R (vb true) h'):Ma (sa pb) (ad bb) (ad xm) (D.s.fk T.t:Nat) false h R:=by
 have bd:=x.w.bd
 have vn:=x.m.vn
 have hn:=x.m.hn
 obtain⟨t',T',LB,hT',_,Kj,d,op⟩:=x.jp hv ho
 rw [ht]at LB
 rw [hT]at hT'
 obtain rfl:=bt LB
 obtain rfl:=bt hT'
 unfold Ma
 refine cj rfl (OL (fun m s0 s3 pc rO Ew g=>∃i:Nat,i≤D.vw.length∧m=D.vw.length-i∧some (ad pb)=s0∧ad bb=s3∧ad xm=pc∧rO=(D.s.fk T.t:Int)∧Ew=(i:Int)∧h=g) D.vw.length ⟨0,cP _,rfl,rfl,rfl,rfl,rfl,rfl,rfl⟩ ?_)
 rintro m s0 s3 pc rO Ew g0 g ⟨i,hi,rfl,rfl,rfl,rfl,rfl,rfl,rfl⟩
 unfold W0
 refine bw ⟨D.rZ,(x.m.cl 2).trans rfl,ca (fun fE=>?_) fun o5=>?_⟩
 ·have iZ:i<D.vw.length:=by omega
  have hw:D.vw[i]?=some (D.vw[i]'iZ):=br iZ
  generalize D.vw[i]'iZ=w at hw
  have hwm:w∈D.vw:=bx hw
  obtain⟨b,_,ha,hc⟩:=x.m.Qd hw
  have nx:∃m,m<D.vw.length-i∧∃i2:Nat,i2≤D.vw.length∧m=D.vw.length-i2∧some (ad pb)=some (ad pb)∧ad bb=ad bb∧ad xm=ad xm∧(D.s.fk T.t:Int)=(D.s.fk T.t:Int)∧wrap .i64 ((i:Int)+(1:Int))=(i2:Int)∧h=h:=⟨D.vw.length-(i+1),by omega,i+1,iZ,rfl,rfl,rfl,rfl,rfl,by rw [bU (by omega) (by omega)];rfl,rfl⟩
  refine bw ⟨D.rZ,(x.m.cl 2).trans rfl,(by omega),cW ha ⟨w.jp,by rw [bu];exact(hc 2 (by omega)).trans rfl,fY (fun hwo=>?_) fun _=>nx⟩⟩
  obtain⟨tw,Tw,htw,hTw,hlw,ayf,dw,opw⟩:=x.jp hwm hwo
  refine bw ⟨D.rZ,(x.m.cl 2).trans rfl,(by omega),cW ha ⟨_,by rw [bu];exact(hc 0 (by omega)).trans rfl,_,zN x.r.g opw.l opw.pos opw.held ⟨rfl,rfl⟩,bw ⟨D.rZ,(x.m.cl 2).trans rfl,(by omega),cW ha ⟨(w.id:Int),by rw [bu];exact(hc 1 (by omega)).trans rfl,(v.id:Int),ia r4 rfl,cj ?_ nx⟩⟩⟩⟩
  have key:((D.s.fk Tw.t:Int)==(D.s.fk T.t:Int))=((w.id:Int)==(v.id:Int)):=by
   rw [ad2,ad2]
   refine decide_eq_decide.2 ⟨fun e=>?_,fun e=>?_⟩
   ·have e2:Tw.t=T.t:=Vl x.r.g.v (.inr (opw.da Tw.jO)) (.inr (op.da T.jO)) e
    refine iq fun iS=>?_
    exact x.w.pg.dj w.id v.id tw t Tw T htw ht hTw hT hlw hl iS Tw.t Tw.jO (e2▸T.jO)
   ·rw [e,hT]at hTw
    rw [bt hTw]
  rw [key,beq_self_eq_true]
  rfl
 ·refine⟨o.uE,(bS r5 0).trans rfl,fY (fun _=>?_) fun _=>hR h D ⟨x.m,x.r,x.w.mono (by omega)⟩ rfl⟩
  have rl:=x.w.rl
  refine bw ⟨_,x.m.BH,BU x.r.g (.inr (op.da T.jO)) (by omega) fun h24 q1 s1 g1 al er ex=>⟨_,_,rfl,?_⟩⟩
  have m24:PM h24 pb {D with q:=q1,s:=s1,nd:=D.nd}:=x.m.ex ex
  have r24:PR h24 {D with q:=q1,s:=s1,nd:=D.nd}:=x.r.ex g1 ex
  have alh:eM h24 xm (mB v):=bF ex.gK r4 fun z=>z hb.1
  refine bw ⟨D.vg,(m24.cl 3).trans rfl,(v.id:Int),ia alh rfl,dh fun h25 e25=>?_⟩
  have k25:bY N h24 h25:=e25▸cF _ _ _
  have ari:eM h25 h24.size (xM ⟨RS.dV D.s.bC+1,some v.id⟩):=by rw [e25];exact du h24 #[wv (RS.dV D.s.bC+1),wv v.id] 218
  clear e25
  have m25:=m24.cI k25
  have r25:=r24.cI k25
  have arb:=bF k25 alh _root_.id
  refine⟨⟨D.vg,(m25.cl 3).trans rfl,rfl⟩,m25.BC r25.Tn (by show D.ho.length≤_;omega) ari fun h27 Y27 sl m27 c27=>?_⟩
  have ara:=bF c27.1 arb hb.2
  have r27:PR h27 {D with q:=q1,s:=s1,nd:=D.nd}:=r25.rB c27 m25.own
  have cn:=x.w.TC ht
  refine bw ⟨_,(m27.cl 1).trans rfl,bw ⟨D.W.ts,(m27.wm.cl 2).trans rfl,(v.id:Int),ia ara rfl,m27.aaa ht rfl (bw ⟨_,((m27.wm.tm v.id t ht).cl m27.wm.sp 6).trans rfl,bw ?_⟩)⟩⟩
  rw [bU (by omega) (by omega)]
  refine m27.aak (t':={t with hd:=t.hd+1}) r27.Tn ht rfl (by omega) rfl rfl rfl rfl fun h28 Y28 m28 c28=>?_
  have r28:PR h28 {D with q:=q1,s:=s1,nd:=D.nd}:=r27.rB c28 m27.own
  exact hR h28 _ ⟨m28,⟨r28.g,r28.tz,r28.mA⟩,x.w.BC hk ht hT hl er al.iN⟩ rfl
theorem Sm(x:Pl h pb D k)(hk:k<200000)(ov:ZU o)(hu:(-9223372036854775808≤o.u∧o.u<9223372036854775808)∧-9223372036854775808≤o.t∧o.t<9223372036854775808)
  (hR:∀h' D',Pl h' pb D' (k+2)→D'.hB=D.hB→R (vb true) h'):bq PG 99 #[vp (sa pb),.agg o.cells.toArray] h R:=by
 have done:∀h',bY N h h'→R (vb true) h':=fun h' kk=>hR h' D ⟨(x.cI kk).m,(x.cI kk).r,x.w.mono (by omega)⟩ rfl
 have up:∀h' D',Pl h' pb D' (k+1)→D'.hB=D.hB→R (vb true) h':=fun h' D' p e=>hR h' D' ⟨p.m,p.r,p.w.mono (by omega)⟩ e
 refine abC (mq:=o.uE) (mn:=o.t) (nF:=o.u) (wD:=o.key) (wC:=o.mN) (wB:=o.n) (wA:=o.w) (wx:=(o.c:Int)) (ww:=(o.a:Int)) (wu:=(o.b:Int)) ?_
 unfold anA
 refine dh fun h1 e1=>?_
 have k1:bY N h h1:=e1▸cF _ _ _
 have r5:eM h1 h.size o.cells:=by
  rw [e1]
  exact du h #[vi o.uE,vi o.t,vi o.u,.slice o.key.a o.key.n o.key.c,.slice o.mN.a o.mN.n o.mN.c,vi o.n,vi o.w,uv o.c,uv o.a,uv o.b] 89
 clear e1
 have x1:=x.cI k1
 have vn:=x1.m.vn
 have bd:=x.w.bd
 have ob5:D.q.bR h.size=.out∧¬D.Y.own h.size:=⟨x.r.g.st.fr (bH _),fun z=>by have:=x.m.wm.sp.zT z;omega⟩
 rw [show nb h=ad h.size from rfl,show nb h1=ad h1.size from rfl]
 refine⟨o.uE,(bS r5 0).trans rfl,fY (fun _=>?_) fun _=>fY (fun _=>?_) fun _=>fY (fun _=>?_) fun _=>bw ⟨D.rZ,(x1.m.cl 2).trans rfl,fY (fun _=>done h1 k1) fun iS=>?_⟩⟩
 ·exact arL x1 (by omega) ov.c r5 rfl ob5 up
 ·refine⟨o.uE,(bS r5 0).trans rfl,_,ia r5 rfl,_,ia r5 rfl,o.key,ia r5 rfl,o.mN,ia r5 rfl,_,ia r5 rfl,_,ia r5 rfl,(o.c:Int),ia r5 rfl,(o.a:Int),ia r5 rfl,(o.b:Int),ia r5 rfl,?_⟩
  exact VF x1 hk ov hu fun h' D' p e=>⟨_,rfl,hR h' D' p e⟩
 ·exact aaK x1 (by omega) hu.1 (p:=(ad h.size).add 2) (ia r5 rfl) up
 have DG:0<D.vw.length:=by
  have:=beq_eq_false_iff_ne.1 iS
  omega
 have m1:=jk o.t (b:=(D.vw.length:Int)) (by omega)
 have m2:=gI o.t (b:=(D.vw.length:Int)) (by omega)
 obtain⟨j,hj⟩:∃j:Nat,o.t%(D.vw.length:Int)=(j:Int):=⟨(o.t%(D.vw.length:Int)).toNat,(fj m1).symm⟩
 have nK:j<D.vw.length:=by omega
 have xL:D.vw[j]?=some (D.vw[j]'nK):=br nK
 generalize D.vw[j]'nK=u at xL
 have LA:u∈D.vw:=bx xL
 obtain⟨b,_,hb,hc⟩:=x1.m.Qd xL
 refine⟨o.t,ia r5 rfl,bw ⟨D.rZ,(x1.m.cl 2).trans rfl,(j:Int),?_,bw ⟨D.rZ,(x1.m.cl 2).trans rfl,(by omega),?_⟩⟩⟩
 ·rw [vn]
  refine rD DG (by omega) hu.2 ?_
  rw [hj];exact⟨rfl,rfl⟩
 refine cW hb ⟨some (ad u.tb),by rw [bu];exact(hc 0 (by omega)).trans rfl,(u.id:Int),by rw [bu];exact(hc 1 (by omega)).trans rfl,u.jp,by rw [bu];exact(hc 2 (by omega)).trans rfl,dh fun h4 e4=>?_⟩
 have k4:bY N h1 h4:=e4▸cF _ _ _
 have r4:eM h4 h1.size [vp none,vi 0,vb false]:=e4▸du h1 #[vp none,vi 0,vb false] 172
 clear e4
 refine eu r4 (i:=0) rfl (by simp) fun h5 r6 k5=>eu r6 (i:=1) (cm _ _) (by simp) fun h6 r7 k6=>eu r7 (i:=2) (cm _ _) (by simp) fun h7 r8 k7=>?_
 have GU:bY N h1 h7:=(cL k4 ((k5.trans k6).trans k7) fun b e=>by rw [e];exact bH _).mono fun _ _ z=>z.elim
 have r8:eM h7 h1.size (mB u):=r8
 have x7:=x1.cI GU
 have Dz:=bF GU r5 _root_.id
 have ob8:D.q.bR h1.size=.out∧¬D.Y.own h1.size:=⟨x.r.g.st.fr k1.1,fun z=>by have:=x.m.wm.sp.zT z;have:=k1.1;omega⟩
 refine⟨o.uE,(bS Dz 0).trans rfl,fY (fun _=>?_) fun _=>⟨_,(bS r8 0).trans rfl,?_⟩⟩
 ·exact agS x7 (by omega) xL r8 ⟨ob8.1,ob8.2,fun w hw e=>by have:=eE (x.r.mA w hw).1.row;have:=k1.1;omega⟩ up
 ·cases HT:u.jp with
  |false =>
   refine Qg x7.r.g (x7.Em LA HT) ⟨_,rfl,u.jp,ia r8 rfl,cr (by rw [HT];rfl) (done h7 (k1.trans GU))⟩
  |true =>
   obtain⟨t,T,ht,hT,hl,Kj,d,op⟩:=x7.jp LA HT
   refine zN x7.r.g op.l op.pos op.held ⟨_,rfl,u.jp,ia r8 rfl,cj (by rw [HT];rfl) (bw ⟨_,x7.m.BH,QH x7.r.g op.c.g.tn (op.da T.jO) ⟨_,_,_,_,rfl,cj rfl (cj rfl ?_)⟩⟩)⟩
   exact amc x7 (by omega) LA HT ht hT hl Dz r8 ob8 up
end
section
variable {h h1 h' h2 h3 g:Hp} {pb k i j n hn:Nat} {D D':PL} {q1:HQ} {s' s1:RS} {nd gm:List di} {R:RP} {v:VD} {t:DT} {vo:LN} {o:Kd} {Y2:Mem} {W:DW} {Y:Mem} {wb z w:Nat} {key mN:LN} {x:zg} {vw:List VD}
theorem PM.ajl(m:PM h pb D)(fr:P3 h D.q D.vw)(hb:D.W.gy.length≤1000000){src:Nat}(r:eM h src [wv z]){K:Hp→Prop}
  (hK:∀h4 Y4 sl,PM h4 pb {D with Y:=Y4,W:={D.W with gy:=D.W.gy++[z],bs:=sl}}→ui h D.Y h4 Y4→K h4) :
  im 3 1 8 #[vi 0] D.W.bs.a D.W.bs.n D.W.bs.c (sa src) 1 h fun ra rn rc h3=>(∃y0:OA,cell h3 ((ad pb).add 1)=some (vp y0)∧Next.value (vp y0)=Next.value (vp (sa D.wb)))∧bE (sa D.wb) fun p=>gZ h3 (p.add 3)∧gi (fy h3 (p.add 3) (.slice ra rn rc)) K:=by
 have bn:=m.wm.bn
 refine⟨[wv z],lq r,rfl,m.wm.ba.app m.wm.sp rfl rfl (fun v hv=>by simp at hv;rw [hv];rfl) (by omega) (by omega) fun a' c' h3 ob c s3 i3 c3=>?_⟩
 have l0:(D.Y.jR 4 ob c).loc 0=some pb:=by rw [Mem.fR _ _ _ (by omega)];exact m.l0
 have l1:(D.Y.jR 4 ob c).loc 1=some D.wb:=by rw [Mem.fR _ _ _ (by omega)];exact m.wm.l1
 have cc0:(D.Y.jR 4 ob c).fM 0=_:=(Mem.gr _ _ _ (by omega)).trans m.c0
 have cc1:(D.Y.jR 4 ob c).fM 1=_:=(Mem.gr _ _ _ (by omega)).trans m.wm.c1
 refine⟨⟨_,(s3.FP l0 1).trans (congrArg (fun l:LV=>l[1]?) cc0),rfl⟩,bw (s3.st l1 (cm _ _) (by rw [cc1];simp) fun h4 s4 c4=>?_)⟩
 have cA:=c3.trans c4
 have off:∀y,y≠1→y≠4→((D.Y.jR 4 ob c).jR 1 (some D.wb) (((D.Y.jR 4 ob c).fM 1).set 3 (.slice a' (D.W.bs.n+1) c'))).loc y=D.Y.loc y∧((D.Y.jR 4 ob c).jR 1 (some D.wb) (((D.Y.jR 4 ob c).fM 1).set 3 (.slice a' (D.W.bs.n+1) c'))).fM y=D.Y.fM y:=fun y h1 h4=>by
  rw [Mem.fR _ _ _ h1,Mem.gr _ _ _ h1,Mem.fR _ _ _ h4,Mem.gr _ _ _ h4]
  exact⟨rfl,rfl⟩
 refine hK h4 _ ⟨a',D.W.bs.n+1,c'⟩ ⟨(off 0 (by omega) (by omega)).1.trans m.l0,(off 0 (by omega) (by omega)).2.trans m.c0,⟨s4,Mem.gM ..,(Mem.jT _ _ _ _).trans (by rw [cc1];rfl),m.wm.va.iy (off 2 (by omega) (by omega)),m.wm.ta.iy (off 3 (by omega) (by omega)),?_,fun i t ht=>(m.wm.tm i t ht).rB cA (off _ (by omega) (by omega)) (off _ (by omega) (by omega))⟩,m.F5.iy (off 5 (by omega) (by omega)),m.hi.iy (off 6 (by omega) (by omega)),m.li.iy (off 7 (by omega) (by omega)),m.IU fr cA,m.su,m.Hj,⟨cL m.bs.k cA.1 m.bs.o,m.bs.r,fun b fV=>(cA.2 b fV).elim (m.bs.o b) fun h=>bP m.bs.k.1 h,m.bs.v⟩⟩ cA
 show kO 1 _ 4 ⟨a',D.W.bs.n+1,c'⟩ ((D.W.gy++[z]).map wv)
 rw [cx]
 exact kO.oR i3 (by omega)
theorem PM.agq(m:PM h pb D)(fr:P3 h D.q D.vw)(hz:D.W.gy[j]?=some z){K:Hp→Prop}
  (hK:∀h4 Y4,PM h4 pb {D with Y:=Y4,W:={D.W with gy:=D.W.gy.set j 0}}→ui h D.Y h4 Y4→K h4) :
  (0≤(j:Int)∧(j:Int)<(D.W.bs.n:Int))∧bE D.W.bs.a fun aaP=>gZ h (aaP.add ((j:Int).toNat*1))∧gi (fy h (aaP.add ((j:Int).toNat*1)) (vi 0)) K:=by
 have bn:=m.wm.bn
 have hl:=(bp.1 hz).1
 obtain⟨b,hb,ha,_⟩:=m.wm.bat hz
 obtain⟨ho,isl⟩:=m.wm.ba.set hb (vi 0) (o:=j) (by rw [bA];exact hl)
 refine⟨(by omega),cW ha (m.wm.sp.st hb (by rw [bu,cm,cQ]) ho fun h4 s4 c4=>?_)⟩
 have off:∀y,y≠4→(D.Y.jR 4 (some b) ((D.Y.fM 4).set j (vi 0))).loc y=D.Y.loc y∧(D.Y.jR 4 (some b) ((D.Y.fM 4).set j (vi 0))).fM y=D.Y.fM y:=fun y h5=>by
  rw [Mem.fR _ _ _ h5,Mem.gr _ _ _ h5]
  exact⟨rfl,rfl⟩
 refine hK h4 _ ⟨(off 0 (by omega)).1.trans m.l0,(off 0 (by omega)).2.trans m.c0,⟨s4,(off 1 (by omega)).1.trans m.wm.l1,(off 1 (by omega)).2.trans m.wm.c1,m.wm.va.iy (off 2 (by omega)),m.wm.ta.iy (off 3 (by omega)),?_,fun i t ht=>(m.wm.tm i t ht).rB c4 (off _ (by omega)) (off _ (by omega))⟩,m.F5.iy (off 5 (by omega)),m.hi.iy (off 6 (by omega)),m.li.iy (off 7 (by omega)),m.IU fr c4,m.su,m.Hj,⟨cL m.bs.k c4.1 m.bs.o,m.bs.r,fun b fV=>(c4.2 b fV).elim (m.bs.o b) fun h=>bP m.bs.k.1 h,m.bs.v⟩⟩ c4
 show kO 1 _ 4 D.W.bs ((D.W.gy.set j 0).map wv)
 rw [ig]
 exact isl
theorem PW.BB(w:PW D k)(hk:k≤200000){u mk:Nat}(hz:D.W.eX[u]?=some (z,mk)) (h0:0<z) (h1:1≤u) (hn:u∉lY D.W.gy D.lv) (he:∀t∈D.W.de,t.ib=true→∀e∈t.es,e.val≠u) {id:Nat} (iA:D.vo[u]?=some id) (er:s1.bC=ix D.s.bC id) (lm:s1.cM=D.s.cM) {sl bs:Sl} :
  PW {D with W:={D.W with gy:=D.W.gy++[z],bs:=bs},q:=q1,s:=s1,lv:=D.lv++[u],Y:=Y2,HM:=sl,lo:=D.lo++[RS.dV D.s.bC+1]} (k+1):=by
 have hc:=w.hc.BB (bs:=bs) (w:=u) w.pg.ll h0
 rw [jq iA]at hc
 have rl:=yz D.s.bC id
 have bd:=w.bd
 have Du:WV {D.W with gy:=D.W.gy++[z],bs:=bs}:=⟨w.wv.iN,w.wv.v1,w.wv.mA,w.wv.vz,w.wv.tl,by show (D.W.gy++[z]).length≤_;rw [bG];show D.W.gy.length+1≤_;omega,fun y hy=>by
  rcases bI.1 hy with h|h
  ·exact w.wv.bz y h
  ·rw [bM.1 h]
   exact w.wv.vz _ (bx hz),w.wv.es⟩
 have ea:=Ng (v:=u) w.pg.ll h0
 refine⟨w.pg.BB hz h0 h1 hn he (er▸hc.NV w.pg.tl ?_ fun v hv=>?_),er▸hc,Du,lm.trans w.iN,w.n1,?_,?_⟩
 ·show (D.lv++[u]).length=(D.W.gy++[z]).length
  rw [bG,bG,w.pg.ll];rfl
 ·have hv:v∈lY (D.W.gy++[z]) (D.lv++[u]):=hv
  rw [ea]at hv
  rcases bI.1 hv with h|h
  ·exact w.Cy v h
  ·rw [bM.1 h]
   exact(bp.1 iA).1
 ·have:=w.rl
  show s1.bC.length≤_
  rw [er];omega
 ·show D.W.eX.length≤_∧D.W.de.length≤_∧(D.W.gy++[z]).length≤_∧D.vw.length≤_∧D.ho.length≤_
  rw [bG]
  exact⟨by omega,by omega,by show D.W.gy.length+1≤_;omega,by omega,by omega⟩
theorem PW.xZ(w:PW D k)(hk:k≤200000){u:Nat}(hz:D.W.gy[j]?=some z)(h0:0<z)(hu:D.lv[j]?=some u)(hn:D.lo[j]?=some n)(er:s1.bC=D.s.bC.set (n-1) none) (lm:s1.cM=D.s.cM) :
  PW {D with W:={D.W with gy:=D.W.gy.set j 0},q:=q1,s:=s1,Y:=Y2} (k+1):=by
 have hc:=w.hc.xZ hz h0 hu hn
 have bd:=w.bd
 have Du:WV {D.W with gy:=D.W.gy.set j 0}:=⟨w.wv.iN,w.wv.v1,w.wv.mA,w.wv.vz,w.wv.tl,by show (D.W.gy.set j 0).length≤_;rw [cd];exact w.wv.bl,fun y hy=>by
  rcases dB hy with h|rfl
  ·exact w.wv.bz y h
  ·omega,w.wv.es⟩
 refine⟨w.pg.xZ (er▸hc.NV w.pg.tl ?_ fun v hv=>w.Cy v ((BD D.W.gy D.lv j).subset hv)),er▸hc,Du,lm.trans w.iN,w.n1,?_,?_⟩
 ·show D.lv.length=(D.W.gy.set j 0).length
  rw [cd];exact w.pg.ll
 ·have:=w.rl
  show s1.bC.length≤_
  rw [er,cd];omega
 ·show D.W.eX.length≤_∧D.W.de.length≤_∧(D.W.gy.set j 0).length≤_∧D.vw.length≤_∧D.ho.length≤_
  rw [cd]
  exact⟨by omega,by omega,by omega,by omega,by omega⟩
theorem TH(x:Pl h pb D k)(hk:k<200000)(ov:ZU o)(hu:-9223372036854775808≤o.u∧o.u<9223372036854775808)
  (hR:∀h' D',Pl h' pb D' (k+2)→D'.hB=D.hB→R (vb true) h'):bq PG 100 #[vp (sa pb),.agg o.cells.toArray] h R:=by
 have done:∀h',bY N h h'→R (vb true) h':=fun h' kk=>hR h' D ⟨(x.cI kk).m,(x.cI kk).r,x.w.mono (by omega)⟩ rfl
 have up:∀h' D',Pl h' pb D' (k+1)→D'.hB=D.hB→R (vb true) h':=fun h' D' p e=>hR h' D' ⟨p.m,p.r,p.w.mono (by omega)⟩ e
 refine YN (mq:=o.uE) (mn:=o.t) (nF:=o.u) (wD:=o.key) (wC:=o.mN) (wB:=o.n) (wA:=o.w) (wx:=(o.c:Int)) (ww:=(o.a:Int)) (wu:=(o.b:Int)) ?_
 unfold afC
 refine dh fun h1 e1=>?_
 have k1:bY N h h1:=e1▸cF _ _ _
 have r5:eM h1 h.size o.cells:=by
  rw [e1]
  exact du h #[vi o.uE,vi o.t,vi o.u,.slice o.key.a o.key.n o.key.c,.slice o.mN.a o.mN.n o.mN.c,vi o.n,vi o.w,uv o.c,uv o.a,uv o.b] 89
 clear e1
 have x1:=x.cI k1
 have bd:=x.w.bd
 rw [show nb h=ad h.size from rfl]
 refine⟨o.uE,(bS r5 0).trans rfl,fY (fun _=>?_) fun _=>fY (fun _=>?_) fun _=>fY (fun _=>?_) fun _=>fY (fun _=>?_) fun _=>fY (fun _=>?_) fun _=>done h1 k1⟩
 ·
  refine bw ⟨_,x1.m.BH,KV x1 fun h2 q1 s1 p f es=>⟨rfl,bw ⟨_,p.m.BH,S5 p.r.g.v p.r.g.st.rp fun h3 k3=>⟨_,_,_,_,_,_,_,_,_,rfl,dh fun h4 e4=>?_⟩⟩⟩⟩
  have k4:bY N h3 h4:=e4▸cF _ _ _
  have r4:eM h4 h3.size [vi 0,vi 0,vi 0,vi 0,vi 0,vi 0,vi 0,vi 0,vi 0]:=e4▸du h3 #[vi 0,vi 0,vi 0,vi 0,vi 0,vi 0,vi 0,vi 0,vi 0] 65
  clear e4
  rw [show nb h3=ad h3.size from rfl]
  refine eu r4 (i:=0) rfl (by simp) fun h5 r5 k5=>eu r5 (i:=1) (cm _ _) (by simp) fun h6 r6 k6=>eu r6 (i:=2) (cm _ _) (by simp) fun h7 r7 k7=>eu r7 (i:=3) (cm _ _) (by simp) fun h8 r8 k8=>eu r8 (i:=4) (cm _ _) (by simp) fun h9 r9 k9=>eu r9 (i:=5) (cm _ _) (by simp) fun Dq r10 k10=>eu r10 (i:=6) (cm _ _) (by simp) fun Aj r11 k11=>eu r11 (i:=7) (cm _ _) (by simp) fun Tl r12 k12=>eu r12 (i:=8) (cm _ _) (by simp) fun zC r13 k13=>?_
  have kA:bY N h3 zC:=cL k4 ((((((((k5.trans k6).trans k7).trans k8).trans k9).trans k10).trans k11).trans k12).trans k13) fun b e=>by rw [e];exact bH _
  have r13:eM zC h3.size [vi (s1.cM:Nat),vi (s1.dJ:Nat),vi (s1.cZ:Nat),vi (s1.dI:Nat),vi (s1.ID:Nat),vi (s1.xB:Nat),vi s1.PI,vi s1.EJ,vi (s1.HL:Nat)]:=r13
  have p13:=p.cI (k3.trans kA)
  refine bw ⟨_,(p13.m.cl 1).trans rfl,RN p13.m.wm p13.w.wv (vv:=0) p13.w.wv.v1 fun cb g rc GZ kg=>⟨_,rfl,_,ia (bF kg r13 _root_.id) rfl,bw ⟨_,(bS rc 0).trans rfl,?_⟩⟩⟩
  have pg:=p13.cI kg
  have r13:=bF kg r13 _root_.id
  obtain⟨st1,st2,st3⟩:=x1.UQ
  have e2:(s1.cZ:Int)=(D.W.S 0:Int):=by rw [es,st1]
  have e3:(s1.dI:Int)=(D.W.B 0:Int):=by rw [es,st2]
  have e5:(s1.xB:Int)=((zZ D.vw+(yY D.ho+yZ D.W.gy):Nat):Int):=by rw [es,st3]
  refine cr (by rw [e2];exact beq_self_eq_true _) ⟨_,ia r13 rfl,bw ⟨_,ia rc rfl,cr (by rw [e3];exact beq_self_eq_true _) ⟨_,ia r13 rfl,_,OC pg (by omega) ⟨rfl,rfl⟩,?_⟩⟩⟩
  have e6:((s1.xB:Int)==((zZ D.vw+(yY D.ho+yZ D.W.gy):Nat):Int))=true:=by rw [e5];exact beq_self_eq_true _
  show R (vb ((s1.xB:Int)==((zZ D.vw+(yY D.ho+yZ D.W.gy):Nat):Int))) g
  rw [e6]
  exact up g _ pg rfl
 ·
  refine⟨o.n,ia r5 rfl,?_⟩
  refine B4 x1 (by omega) ov.n (fun h' q1 s1 p f=>⟨_,_,_,rfl,cj rfl ?_⟩) fun h2 D' id zz p hB f hh AI hv htt hb hl Ag hho hlo hwb h2z=>⟨_,_,_,rfl,cj rfl ?_⟩
  ·unfold JM
   exact cr rfl (up h' _ p rfl)
  have v1:=x.w.wv.v1
  have e0:((D.W.eX.length:Int)==(0:Int))=false:=beq_eq_false_iff_ne.2 (by omega)
  rw [e0]
  unfold JM
  have rl:=p.w.rl
  have bd':=p.w.bd
  refine cj rfl (bw ⟨_,p.m.BH,BU p.r.g (.inr hh) (by omega) fun Nq q1 s1 g1 al er ex=>⟨_,_,rfl,?_⟩⟩)
  have m17:PM Nq pb {D' with q:=q1,s:=s1,nd:=D'.nd,lv:=D'.lv++[D.W.eX.length]}:=by
   have m:=p.m.ex (s':=s1) (gm:=D'.nd) ex
   exact⟨m.l0,m.c0,m.wm,m.F5,m.hi,m.li,m.own,m.su,m.Hj,⟨m.bs.k,m.bs.r,m.bs.o,m.bs.v⟩⟩
  have r17:PR Nq {D' with q:=q1,s:=s1,nd:=D'.nd}:=p.r.ex g1 ex
  refine bw ⟨D'.HM,(m17.cl 4).trans rfl,dh fun h18 e18=>?_⟩
  have k18:bY N Nq h18:=e18▸cF _ _ _
  have ark:eM h18 Nq.size [wv (RS.dV D'.s.bC+1)]:=by rw [e18];exact du Nq #[wv (RS.dV D'.s.bC+1)] 3
  clear e18
  have m18:=m17.cI k18
  have r18:=r17.cI k18
  have lnn:D'.lo.length=D'.W.gy.length:=p.w.hc.lp.1
  refine m18.aoW r18.Tn (by show D'.lo.length≤_;omega) ark fun ZQ Y20 sl m20 c20=>?_
  have r20:PR ZQ {D' with q:=q1,s:=s1,nd:=D'.nd}:=r18.rB c20 m18.own
  have hvz:D'.W.eX[D.W.eX.length]?=some zz:=by rw [hv,bN (bH _),dD];rfl
  have ahw:D'.vo[D.W.eX.length]?=some id:=by rw [AI,←x.w.pg.mA,bN (bH _),dD];rfl
  have vn:=m20.wm.vn
  have BG:=(bp.1 hvz).1
  obtain⟨b,ha,c1,_⟩:=m20.wm.Qd hvz
  have vn:D'.W.vs.n=D'.W.eX.length:=vn
  refine bw ⟨_,(m20.cl 1).trans rfl,bw ⟨_,(m20.cl 1).trans rfl,bw ⟨D'.W.bs,(m20.wm.cl 3).trans rfl,bw ⟨_,(m20.cl 1).trans rfl,bw ⟨D'.W.vs,(m20.wm.cl 1).trans rfl,(by omega),cW ha ⟨_,by rw [bu];exact c1,dh fun h21 e21=>?_⟩⟩⟩⟩⟩⟩
  have k21:bY N ZQ h21:=e21▸cF _ _ _
  have arj:eM h21 ZQ.size [wv zz.1]:=by rw [e21];exact du ZQ #[wv zz.1] 3
  clear e21
  have m21:=m20.cI k21
  have r21:=r20.cI k21
  refine⟨⟨D'.W.bs,(m21.wm.cl 3).trans rfl,rfl⟩,⟨_,(m21.cl 1).trans rfl,rfl⟩,⟨_,(m21.cl 1).trans rfl,rfl⟩,m21.ajl r21.Tn (by show D'.W.gy.length≤_;omega) arj fun h23 Y23 bs m23 c23=>?_⟩
  have r23:PR h23 {D' with q:=q1,s:=s1,nd:=D'.nd}:=r21.rB c23 m21.own
  refine hR h23 _ ⟨m23,⟨r23.g,r23.tz,r23.mA⟩,p.w.BB (by omega) (mk:=zz.2) hvz (by omega) v1 (fun hw=>?_) (fun t ht yK e he=>?_) ahw er al.iN⟩ hB
  ·rw [hb,hl]at hw
   have:=(x.w.pg.PX hw).2
   omega
  ·rw [htt]at ht
   have:=(x.w.wv.es t ht).2.1 e he
   omega
 ·
  have ln:=x1.m.ln
  have bn:=x1.m.wm.bn
  have lp:=x.w.hc.lp
  refine bw ⟨D.HM,(x1.m.cl 4).trans rfl,fY (fun _=>done h1 k1) fun iS=>?_⟩
  have DG:0<D.lo.length:=by
   have:=beq_eq_false_iff_ne.1 iS
   omega
  have m1:=jk o.u (b:=(D.lo.length:Int)) (by omega)
  have m2:=gI o.u (b:=(D.lo.length:Int)) (by omega)
  obtain⟨j,hj⟩:∃j:Nat,o.u%(D.lo.length:Int)=(j:Int):=⟨(o.u%(D.lo.length:Int)).toNat,(fj m1).symm⟩
  have nK:j<D.lo.length:=by omega
  have Ud:D.lo[j]?=some (D.lo[j]'nK):=br nK
  generalize D.lo[j]'nK=n at Ud
  have hz2:D.W.gy[j]?=some (D.W.gy[j]'(by omega)):=br (by omega)
  generalize D.W.gy[j]'(by omega)=z at hz2
  have xL:D.lv[j]?=some (D.lv[j]'(by rw [x.w.pg.ll];omega)):=br (by rw [x.w.pg.ll];omega)
  generalize D.lv[j]'(by rw [x.w.pg.ll];omega)=u at xL
  obtain⟨b,_,ha,hc⟩:=x1.m.wm.bat hz2
  refine⟨o.u,ia r5 rfl,bw ⟨D.HM,(x1.m.cl 4).trans rfl,(j:Int),?_,bw ⟨_,(x1.m.cl 1).trans rfl,bw ⟨D.W.bs,(x1.m.wm.cl 3).trans rfl,(by omega),cW ha ⟨(z:Int),by rw [bu,cQ];exact hc,ca (fun hz0=>?_) fun _=>done h1 k1⟩⟩⟩⟩⟩
  ·rw [ln]
   refine rD DG (by omega) hu ?_
   rw [hj];exact⟨rfl,rfl⟩
  have h0:0<z:=by omega
  have hd:D.s.bC.getD (n-1) none=some (D.vo.getD u 0):=by
   refine(x.w.hc.c.ch _ _).2 (bK _ (bK _ (ft.2 ⟨((z,u),n),bx (i:=j) ?_,?_⟩)))
   ·rw [d6]
    exact⟨d6.2 ⟨hz2,xL⟩,Ud⟩
   ·unfold pu
    rw [if_pos h0]
  have Q5:1≤n:=lp.2 n (bx Ud)
  refine bw ⟨_,(x1.m.cl 1).trans rfl,bw ⟨D.W.bs,(x1.m.wm.cl 3).trans rfl,x1.m.agq x1.r.Tn hz2 fun h25 Y25 m25 c25=>?_⟩⟩
  have r25:PR h25 D:=x1.r.rB c25 x1.m.own
  obtain⟨b2,ha2,xO⟩:=m25.lat Ud
  refine bw ⟨_,m25.BH,bw ⟨D.HM,(m25.cl 4).trans rfl,(by omega),cW ha2 ⟨(n:Int),by rw [bu,cQ];exact xO,BV r25.g Q5 hd fun h26 q1 s1 g1 al er ex=>⟨_,rfl,?_⟩⟩⟩⟩
  have r26:=r25.ex g1 ex
  exact up h26 _ ⟨m25.ex ex,⟨r26.g,r26.tz,r26.mA⟩,x.w.xZ (by omega) hz2 h0 xL Ud er al.iN⟩ rfl
 ·exact bw ⟨_,x1.m.BH,KV x1 fun h2 q1 s1 p f es=>⟨rfl,up h2 _ p rfl⟩⟩
 ·exact bw ⟨_,x1.m.BH,o.n,ia r5 rfl,aaL x1 fun h2 q1 s1 e p f=>⟨_,rfl,up h2 _ p rfl⟩⟩
end
structure Kf (h:Hp) (a:Sl) (key:LN):Prop where
 rd:dZ h a.a (key.map bv)
 n:a.n=key.length
 b8:fK key
 nil:a.a=none→a.n=0
 len:key.length≤140737488351232
 src:∀p,a.a=some p→key≠[]→p.block<h.size
structure Kb where
 o:Kd
 key:LN
 mN:LN
structure Kb.Ok (h:Hp) (x:Kb):Prop where
 ov:ZU x.o
 u:-9223372036854775808≤x.o.u∧x.o.u<9223372036854775808
 t:-9223372036854775808≤x.o.t∧x.o.t<9223372036854775808
 kk:Kf h x.o.key x.key
 kt:Kf h x.o.mN x.mN
theorem IV(x:Kb):x.o.cells.length=10:=rfl
section
variable {h h1 h' h2 h3 g:Hp} {pb k i j n tb:Nat} {D D':PL} {s1:RS} {R:RP} {v:VD} {t:DT} {o:Kd} {z w:Nat} {key mN:LN} {x:zg} {vw:List VD} {X:Kb}
theorem Kf.cI {a:Sl}(x:Kf h a key)(k:bY N h h'):Kf h' a key:=⟨fC k x.rd,x.n,x.b8,x.nil,x.len,fun p h1 h2=>bZ (x.src p h1 h2) k.1⟩
theorem Kb.Ok.cI(x:X.Ok h)(k:bY N h h'):X.Ok h':=⟨x.ov,x.u,x.t,x.kk.cI k,x.kt.cI k⟩
theorem Kf.akq {a:Sl}(x:Kf D.hB a key)(p:Pl h pb D k):rx h D a key :=
 ⟨fC p.m.bs.k x.rd,x.n,x.b8,x.nil,x.len,fun q h1 h2=>by
  have hl:=x.src q h1 h2
  refine⟨bZ hl p.m.bs.k.1,iq fun hr=>?_,fun z=>?_,fun v hv e=>?_⟩
  ·have:=p.m.bs.r _ hr;omega
  ·have:=p.m.bs.o _ z;omega
  ·have:=p.m.bs.v v hv;omega⟩
theorem Vx(x:Pl h pb D k)(hk:k<200000)(ok:X.Ok D.hB)
  (hR:∀h' D',Pl h' pb D' (k+2)→D'.hB=D.hB→R (vb true) h'):bq PG 55 #[vp (sa pb),.agg X.o.cells.toArray] h R:=by
 have done:∀h',bY N h h'→R (vb true) h':=fun h' kk=>hR h' D ⟨(x.cI kk).m,(x.cI kk).r,x.w.mono (by omega)⟩ rfl
 obtain⟨o,key,mN⟩:=X
 have ov:ZU o:=ok.ov
 refine ab7 (mq:=o.uE) (mn:=o.t) (nF:=o.u) (wD:=o.key) (wC:=o.mN) (wB:=o.n) (wA:=o.w) (wx:=(o.c:Int)) (ww:=(o.a:Int)) (wu:=(o.b:Int)) ?_
 unfold aoc
 refine dh fun h1 e1=>?_
 have k1:bY N h h1:=e1▸cF _ _ _
 have r5:eM h1 h.size o.cells:=by
  rw [e1]
  exact du h #[vi o.uE,vi o.t,vi o.u,.slice o.key.a o.key.n o.key.c,.slice o.mN.a o.mN.n o.mN.c,vi o.n,vi o.w,uv o.c,uv o.a,uv o.b] 89
 clear e1
 have x1:=x.cI k1
 have vn:=x1.m.vn
 have bd:=x.w.bd
 rw [show nb h=ad h.size from rfl]
 have k2f:Fw (sa pb) (ad h.size) false h1 R:=by
  unfold Fw
  refine cj rfl (bw ⟨D.rZ,(x1.m.cl 2).trans rfl,fY (fun _=>done h1 k1) fun iS=>?_⟩)
  have DG:0<D.vw.length:=by
   have:=beq_eq_false_iff_ne.1 iS
   omega
  have m1:=jk o.t (b:=(D.vw.length:Int)) (by omega)
  have m2:=gI o.t (b:=(D.vw.length:Int)) (by omega)
  obtain⟨j,hj⟩:∃j:Nat,o.t%(D.vw.length:Int)=(j:Int):=⟨(o.t%(D.vw.length:Int)).toNat,(fj m1).symm⟩
  have nK:j<D.vw.length:=by omega
  have xL:D.vw[j]?=some (D.vw[j]'nK):=br nK
  generalize D.vw[j]'nK=u at xL
  have LA:u∈D.vw:=bx xL
  obtain⟨b,_,hb,hc⟩:=x1.m.Qd xL
  refine bw ⟨D.rZ,(x1.m.cl 2).trans rfl,o.t,ia r5 rfl,bw ⟨D.rZ,(x1.m.cl 2).trans rfl,(j:Int),?_,(by omega),?_⟩⟩
  ·rw [vn]
   refine rD DG (by omega) ok.t ?_
   show _=Value.int .i64 (j:Int)∧_
   rw [hj];exact⟨rfl,rfl⟩
  rw [hb]
  refine bw ⟨some (ad u.tb),by rw [bu];exact(hc 0 (by omega)).trans rfl,(u.id:Int),by rw [bu];exact(hc 1 (by omega)).trans rfl,u.jp,by rw [bu];exact(hc 2 (by omega)).trans rfl,dh fun h4 e4=>?_⟩
  have k4:bY N h1 h4:=e4▸cF _ _ _
  have r4:eM h4 h1.size [vp none,vi 0,vb false]:=e4▸du h1 #[vp none,vi 0,vb false] 172
  clear e4
  have x4:=x1.cI k4
  have r54:=bF k4 r5 _root_.id
  obtain⟨b2,_,vW,xO⟩:=x4.m.Qd xL
  rw [hb]at vW
  obtain rfl:b=b2:=by injection vW with e;injection e
  refine⟨⟨some (ad u.tb),by rw [bu];exact(xO 0 (by omega)).trans rfl,(u.id:Int),by rw [bu];exact(xO 1 (by omega)).trans rfl,u.jp,by rw [bu];exact(xO 2 (by omega)).trans rfl,rfl⟩,?_,⟨D.rZ,(x4.m.cl 2).trans rfl,by rw [hb]⟩,⟨o.t,ia r54 rfl,rfl⟩,⟨D.rZ,(x4.m.cl 2).trans rfl,by rw [hb]⟩,?_⟩
  ·rw [vn]
   refine rD DG (by omega) ok.t ?_
   show _=Value.int .i64 (j:Int)∧_
   rw [hj];exact⟨rfl,rfl⟩
  rw [show nb h1=ad h1.size from rfl]
  refine eu r4 (i:=0) rfl (by simp) fun h5 r6 k5=>eu r6 (i:=1) (cm _ _) (by simp) fun h6 r7 k6=>eu r7 (i:=2) (cm _ _) (by simp) fun h7 r8 k7=>?_
  have GU:bY N h1 h7:=(cL k4 ((k5.trans k6).trans k7) fun b e=>by rw [e];exact bH _).mono fun _ _ z=>z.elim
  have r8:eM h7 h1.size (mB u):=r8
  have x7:=x1.cI GU
  have Dz:=bF GU r5 _root_.id
  have k07:=k1.trans GU
  have T8:rx h7 D o.key key:=ok.kk.akq x7
  have kt7:rx h7 D o.mN mN:=ok.kt.akq x7
  have RZ:∀(fn:Nat) (R:RP) (hf:bq PG fn #[vp (sa pb),.agg (mB u).toArray,.agg o.cells.toArray] h7 R),
    ∃ads:OA,cell h7 (ad h1.size)=some (vp ads)∧∃adr:Int,cell h7 ((ad h1.size).add 1)=some (vi adr)∧∃adq:Bool,cell h7 ((ad h1.size).add 2)=some (vb adq)∧∃adp:Int,cell h7 (ad h.size)=some (vi adp)∧∃ado:Int,cell h7 ((ad h.size).add 1)=some (vi ado)∧∃adn:Int,cell h7 ((ad h.size).add 2)=some (vi adn)∧∃Ho:Sl,cell h7 ((ad h.size).add 3)=some (.slice Ho.a Ho.n Ho.c)∧∃Hn:Sl,cell h7 ((ad h.size).add 4)=some (.slice Hn.a Hn.n Hn.c)∧∃adm:Int,cell h7 ((ad h.size).add 5)=some (vi adm)∧∃adl:Int,cell h7 ((ad h.size).add 6)=some (vi adl)∧∃adk:Int,cell h7 ((ad h.size).add 7)=some (vu adk)∧∃adj:Int,cell h7 ((ad h.size).add 8)=some (vu adj)∧∃adi:Int,cell h7 ((ad h.size).add 9)=some (vu adi)∧bq PG fn #[vp (sa pb),.agg #[vp ads,vi adr,vb adq],.agg #[vi adp,vi ado,vi adn,.slice Ho.a Ho.n Ho.c,.slice Hn.a Hn.n Hn.c,vi adm,vi adl,vu adk,vu adj,vu adi]] h7 R:=fun fn R hf =>
   ⟨_,(bS r8 0).trans rfl,_,ia r8 rfl,_,ia r8 rfl,o.uE,(bS Dz 0).trans rfl,_,ia Dz rfl,_,ia Dz rfl,o.key,ia Dz rfl,o.mN,ia Dz rfl,_,ia Dz rfl,_,ia Dz rfl,(o.c:Int),ia Dz rfl,(o.a:Int),ia Dz rfl,(o.b:Int),ia Dz rfl,hf⟩
  have up:∀h' D',Pl h' pb D' (k+1)→D'.hB=D.hB→∃t:Bool,Value.bool true=vb t∧R (vb t) h':=fun h' D' p e=>⟨true,rfl,hR h' D' ⟨p.m,p.r,p.w.mono (by omega)⟩ e⟩
  refine⟨o.uE,(bS Dz 0).trans rfl,?_⟩
  have cK4:∀c,Mf (sa pb) (ad h.size) (ad h1.size) c h7 R:=fun c=>by
   unfold Mf
   refine fY (fun _=>?_) fun _=>?_
   ·exact RZ 103 _ (UD x7 LA ov fun h' kk=>⟨true,rfl,done h' (k07.trans kk)⟩)
   ·exact RZ 104 _ (Sr x7 LA fun h' D' p e=>⟨true,rfl,hR h' D' ⟨p.m,p.r,p.w.mono (by omega)⟩ e⟩)
  have cK3:∀c,Rp (sa pb) (ad h.size) (ad h1.size) o.uE c h7 R:=fun c=>by
   unfold Rp
   refine fY (fun _=>?_) fun _=>fY (fun _=>?_) fun _=>fY (fun _=>cK4 _) fun _=>fY (fun _=>cK4 _) fun _=>cK4 _
   ·exact RZ 101 _ (aaG x7 hk LA ov ok.u T8 kt7 fun h' D' p e=>⟨true,rfl,hR h' D' p e⟩)
   ·exact RZ 102 _ (abw x7 LA T8 fun h' kk=>⟨true,rfl,done h' (k07.trans kk)⟩)
  exact fY (fun _=>cK3 _) fun _=>cK3 _
 have k2t:Fw (sa pb) (ad h.size) true h1 R:=by
  unfold Fw
  refine cr rfl ⟨o.uE,(bS r5 0).trans rfl,_,ia r5 rfl,_,ia r5 rfl,o.key,ia r5 rfl,o.mN,ia r5 rfl,_,ia r5 rfl,_,ia r5 rfl,(o.c:Int),ia r5 rfl,(o.a:Int),ia r5 rfl,(o.b:Int),ia r5 rfl,?_⟩
  exact TH x1 hk ov ok.u fun h' D' p e=>⟨_,rfl,hR h' D' p e⟩
 have k2:∀c,Fw (sa pb) (ad h.size) c h1 R:=fun c=>by
  cases c with
  |true=>exact k2t
  |false=>exact k2f
 have k1':∀c,Rq (sa pb) (ad h.size) c h1 R:=fun c=>by
  unfold Rq
  refine fY (fun _=>?_) fun _=>⟨o.uE,(bS r5 0).trans rfl,fY (fun _=>k2t) fun _=>⟨o.uE,(bS r5 0).trans rfl,k2 _⟩⟩
  refine⟨o.uE,(bS r5 0).trans rfl,_,ia r5 rfl,_,ia r5 rfl,o.key,ia r5 rfl,o.mN,ia r5 rfl,_,ia r5 rfl,_,ia r5 rfl,(o.c:Int),ia r5 rfl,(o.a:Int),ia r5 rfl,(o.b:Int),ia r5 rfl,?_⟩
  exact Sm x1 hk ov ⟨ok.u,ok.t⟩ fun h' D' p e=>⟨_,rfl,hR h' D' p e⟩
 exact⟨o.uE,(bS r5 0).trans rfl,fY (fun _=>⟨o.uE,(bS r5 0).trans rfl,k1' _⟩) fun _=>k1' _⟩
theorem Wu {ops:List Kb}{sl:Sl}{iN lo hi:Int}(tz:eM h BF (Nt.map fun n=>.int .u8 (n:Nat))) (rd:dZ h sl.a (ops.flatMap fun x=>x.o.cells)) (sn:sl.n=ops.length) (ok:∀x∈ops,Kb.Ok h x)
  (hR:∀h',bY N h h'→R (vb true) h'):bq PG 18 #[.agg #[vi iN,.slice sl.a sl.n sl.c],vi lo,vi hi] h R:=by
 refine acu ?_
 unfold aoo
 refine dh fun h1 e1=>?_
 have k1:bY N h h1:=e1▸cF _ _ _
 have r3:eM h1 h.size [vi iN,.slice sl.a sl.n sl.c]:=e1▸du h #[vi iN,.slice sl.a sl.n sl.c] 24
 clear e1
 rw [show nb h=ad h.size from rfl]
 refine⟨iN,(bS r3 0).trans rfl,agT (bF k1 tz _root_.id) (fun _=>⟨_,_,rfl,cr rfl (hR h1 k1)⟩) fun h2 pb D p e=>⟨_,_,rfl,cj rfl ?_⟩⟩
 refine O9 (fun m s1 s2 s3 s7 s9 g=>∃(i:Nat) (D:PL),i≤ops.length∧i≤65536∧m=ops.length-i∧s3=ad h.size∧s7=some (ad pb)∧s9=(i:Int)∧Pl g pb D (2*i)∧D.hB=h1) ops.length ⟨0,D,cP _,cP _,rfl,rfl,rfl,rfl,p,e⟩ ?_
 clear p e
 rintro m s1 s2 s3 s7 s9 g0 g ⟨i,D,hi1,hi2,rfl,rfl,rfl,rfl,p,e⟩
 have kk:bY N h1 g:=e▸p.m.bs.k
 have k0:=k1.trans kk
 have r3:=bF kk r3 _root_.id
 unfold XO
 refine⟨sl,ia r3 rfl,ca (fun fE=>?_) fun _=>by
  unfold RF
  exact cj rfl (hR g k0)⟩
 have iZ:i<ops.length:=by omega
 have hx:ops[i]?=some (ops[i]'iZ):=br iZ
 generalize ops[i]'iZ=X at hx
 have yL:∀(o:Nat),o<10→(ops.flatMap fun x=>x.o.cells)[i*10+o]?=X.o.cells[o]?:=fun o ho=>ml (f:=fun x:Kb=>x.o.cells) IV ops i o X hx ho
 have rg:=fC k0 rd
 have okX:=ok X (bx hx)
 unfold RF
 refine ca (fun h6=>?_) fun _=>hR g k0
 obtain⟨a,ha,_⟩:=ni rg ((yL 0 (by omega)).trans rfl)
 have hc:∀(o:Nat) (w:Value),o<10→X.o.cells[o]?=some w→cell g ((a.add (i*10)).add o)=some w:=fun o w ho hw=>by
  obtain⟨a',AK,hc⟩:=ni rg ((yL o ho).trans hw)
  rw [ha]at AK
  obtain rfl:=bt AK
  rw [qJ,hc]
 obtain⟨o,key,mN⟩:=X
 refine⟨sl,ia r3 rfl,(by omega),cW ha ?_⟩
 rw [bu]
 refine⟨o.uE,?_,o.t,hc 1 _ (by omega) rfl,o.u,hc 2 _ (by omega) rfl,o.key,hc 3 _ (by omega) rfl,o.mN,hc 4 _ (by omega) rfl,o.n,hc 5 _ (by omega) rfl,o.w,hc 6 _ (by omega) rfl,(o.c:Int),hc 7 _ (by omega) rfl,(o.a:Int),hc 8 _ (by omega) rfl,(o.b:Int),hc 9 _ (by omega) rfl,dh fun h3 e3=>?_⟩
 ·have:=hc 0 (vi o.uE) (by omega) rfl
  rw [qJ,iF]at this
  exact this
 have k3:bY N g h3:=e3▸cF _ _ _
 have b3:eM h3 g.size [vi 0,vi 0,vi 0,.slice none 0 0,.slice none 0 0,vi 0,vi 0,vu 0,vu 0,vu 0]:=e3▸du g #[vi 0,vi 0,vi 0,.slice none 0 0,.slice none 0 0,vi 0,vi 0,vu 0,vu 0,vu 0] 89
 clear e3
 rw [show nb g=ad g.size from rfl]
 refine eu b3 (i:=0) rfl (by simp) fun h4 b4 q4=>eu b4 (i:=1) (cm _ _) (by simp) fun h5 b5 q5=>eu b5 (i:=2) (cm _ _) (by simp) fun h6 b6 q6=>eu b6 (i:=3) (cm _ _) (by simp) fun h7 b7 q7=>eu b7 (i:=4) (cm _ _) (by simp) fun h8 b8 q8=>eu b8 (i:=5) (cm _ _) (by simp) fun h9 b9 q9=>eu b9 (i:=6) (cm _ _) (by simp) fun Dq b10 q10=>eu b10 (i:=7) (cm _ _) (by simp) fun Aj b11 q11=>eu b11 (i:=8) (cm _ _) (by simp) fun Tl b12 q12=>eu b12 (i:=9) (cm _ _) (by simp) fun zC Uk q13=>?_
 have kA:bY N g zC:=cL k3 (((((((((q4.trans q5).trans q6).trans q7).trans q8).trans q9).trans q10).trans q11).trans q12).trans q13) fun b e=>by rw [e];exact bH _
 have Uk:eM zC g.size o.cells:=Uk
 have p13:=p.cI kA
 refine⟨o.uE,(bS Uk 0).trans rfl,_,ia Uk rfl,_,ia Uk rfl,o.key,ia Uk rfl,o.mN,ia Uk rfl,_,ia Uk rfl,_,ia Uk rfl,(o.c:Int),ia Uk rfl,(o.a:Int),ia Uk rfl,(o.b:Int),ia Uk rfl,?_⟩
 refine Vx (X:=⟨o,key,mN⟩) p13 (by omega) (e▸okX.cI k1) fun H1 D' p' e'=>⟨true,rfl,cj rfl ?_⟩
 unfold Mo
 refine cj rfl ⟨ops.length-(i+1),by omega,i+1,D',iZ,by omega,rfl,rfl,rfl,?_,?_,e'.trans e⟩
 ·rw [bU (by omega) (by omega)];rfl
 ·have e2:2*(i+1)=2*i+2:=by omega
  rw [e2];exact p'
end
end Go.Ev
namespace Go.Proofs.YtjigacanjlppiaaGreatDoor
open Go.ChangeShapes Go.WideShapes Go.ChangeAt Go.RowKit
open Go.Ev (Kd Kb ZU Kf Da dZ uv bv Sq Sl Nt BF fK)
def I64(x:Int):Prop:=-9223372036854775808≤x∧x<9223372036854775808
abbrev iv(x:Int):Value:=.int .i64 x
theorem own:ownKnob Tryz.prog.godebug=none:=by kernel_rfl
theorem c3:Tryz.prog.cellsOf 3=1:=by kernel_rfl
theorem c5:Tryz.prog.cellsOf 5=1:=by kernel_rfl
theorem c22:Tryz.prog.cellsOf 22=1:=by kernel_rfl
theorem c24:Tryz.prog.cellsOf 24=2:=by kernel_rfl
theorem c27:Tryz.prog.cellsOf 27=1:=by kernel_rfl
theorem c39:Tryz.prog.cellsOf 39=1:=by kernel_rfl
theorem c89:Tryz.prog.cellsOf 89=10:=by kernel_rfl
theorem b5:Tryz.prog.bytesOf 5=1:=by kernel_rfl
theorem asw:Kids Tryz.prog (· < Tryz.prog.types.size):=kids_rows (by kernel_rfl) (by kernel_rfl)
theorem KC:∀t e,t<Tryz.prog.types.size→Tryz.prog.underlying t=some (.slice e)→0<Tryz.prog.cellsOf e:=by
 have h:(List.range Tryz.prog.types.size).all (fun t=>match Tryz.prog.underlying t with|some (.slice e)=>decide (0<Tryz.prog.cellsOf e)|_=>true)=true:=by kernel_rfl
 intro t e ht hu
 have:=mg.1 h t (jQ.2 ht)
 rw [hu]at this
 exact of_decide_eq_true this
section
variable {H:Type} {enc:TypeId × Value→H} {W:World}
theorem xj {P:Program}{e:TypeId}:∀ {ds:List (DataW H)} {d:DataW H},d∈ds→∀n∈d.weights P e,n∈DataW.weightsAll P e ds
 |d0::ds,d,hd,n,hn=>by
  rw [DataW.weightsAll,bI]
  rcases ck.1 hd with rfl|hd
  ·exact .inl hn
  ·exact .inr (xj hd n hn)
theorem Om {n:Int}(h:(Lit.int .i64 n).wf=true):I64 n:=by
 have:=bounds_i64 h
 exact⟨this.1,by omega⟩
noncomputable abbrev tr {H:Type} (enc:TypeId × Value→H) (W:World) (n:Nat) (t:TypeId) (cs:List Value):=DataW.trod enc Tryz.prog W 0 (fun _=>true) true n t cs
theorem M5 {n:Nat}{v:Value}{x:DataW H × List MemPlace}(h:tr enc W n 39 [v]=some x)(hw:∀m∈x.1.weights Tryz.prog 39,m≤reachBytes):
  ∃(d:Sl) (l:List Nat),v=Sq d∧dZ W.heap d.a (l.map bv)∧d.n=l.length∧(∀c∈l,c<256)∧l.length≤140737488351232∧∀p,d.a=some p→l≠[]→p.block<W.heap.size:=by
 rcases open_ints Tryz.underlying39 Tryz.underlying5 c5 h with⟨Km,_⟩|⟨a,len,cap,zs,Km,_,hl,_,hz,hx,kY,hwz⟩
 ·refine⟨⟨none,0,0⟩,[],?_,rfl,rfl,by simp,by decide,nofun⟩
  exact(List.cons.inj Km).1
 ·simp only [if_true]at hz
  have hw1:=hw ((len+(cap-len))*Tryz.prog.bytesOf 5) (by
   rw [hx]
   have e1:((lits (H:=H) .u8 (zs.take len)).length)=len:=by simp [lits];omega
   have e2:((lits (H:=H) .u8 (zs.drop len)).length)=cap-len:=by simp [lits];omega
   simp only [DataW.weights,Tryz.underlying39,ck]
   exact .inl (by rw [e1,e2]))
  rw [b5]at hw1
  have hr:reachBytes=140737488351232:=rfl
  have wz:∀i,i<zs.length→0≤zs.getD i 0∧zs.getD i 0≤255:=fun i hi=>by
   rw [bB,br hi]
   exact bounds_u8 (hwz _ (nQ hi))
  have ll:((zs.take len).map Int.toNat).length=len:=by rw [bA,dm];omega
  have rd:∀i,i<len→Go.Ev.cell W.heap (a.add i)=some (bv ((zs.take len).map Int.toNat)[i]!):=fun i hi=>by
   have h1:Go.Ev.cell W.heap (a.add i)=some (.int .u8 (zs.getD i 0)):=kY i (by omega)
   have h2:=wz i (by omega)
   have e:((zs.take len).map Int.toNat)[i]! = (zs.getD i 0).toNat:=by
    rw [List.getElem!_eq_getElem?_getD,bD,gF,if_pos hi,br (by omega),bB,br (by omega)]
    rfl
   rw [h1,e]
   unfold bv
   rw [fj h2.1]
  refine⟨⟨some a,len,cap⟩,(zs.take len).map Int.toNat,?_,?_,ll.symm,?_,by omega,?_⟩
  ·simpa [Sq]using Km
  ·intro j u hj
   rw [bD]at hj
   obtain⟨z,hz1,rfl⟩:=jd.1 hj
   have nK:j<len:=by have:=(bp.1 hz1).1;rw [ll]at this;exact this
   rw [rd j nK,List.getElem!_eq_getElem?_getD,hz1]
   rfl
  ·intro c hc
   obtain⟨z,hz1,rfl⟩:=cy.1 hc
   have:=bounds_u8 (hwz z (dK hz1))
   omega
  ·intro p hp iS
   obtain rfl:=bt hp
   have h0:0<len:=Nat.pos_of_ne_zero fun e=>iS (dA.1 (ll.trans e))
   have h1:=rd 0 h0
   unfold Go.Ev.cell at h1
   have eb:(a.add 0).block=a.block:=rfl
   rw [eb]at h1
   exact Nat.lt_of_not_le fun hl=>by
    rw [jh hl]at h1
    cases h1
theorem al6 {d:Sl}{l:List Nat}(h:dZ W.heap d.a (l.map bv)) (n:d.n=l.length) (b:∀c∈l,c<256) (ln:l.length≤140737488351232) (s:∀p,d.a=some p→l≠[]→p.block<W.heap.size):Kf W.heap d l :=
 ⟨h,n,b,fun e=>by
  cases l with
  |nil=>exact n
  |cons x l =>
   rw [e]at h
   exact absurd h (by simp [dZ]),ln,s⟩
theorem aht {x:Int}(h:I64 x):-9223372036854775808≤x∧x<9223372036854775808:=by
 have:=h
 unfold I64 at this
 omega
theorem alE {n:Nat}{cs:List Value}{x:DataW H × List MemPlace}(h:tr enc W n 89 cs=some x)(hw:∀m∈x.1.weights Tryz.prog 89,m≤reachBytes):∃o:Kb,cs=o.o.cells∧o.Ok W.heap:=by
 obtain⟨xs,n,_,rfl,hl,hn,No⟩:=DataW.trod_struct Tryz.underlying89 h
 rw [c89]at hl
 have e0:tr enc W n 3 ((cs.drop 0).take (Tryz.prog.cellsOf 3))=xs[0]?:=No 0 _ rfl
 have e1:tr enc W n 3 ((cs.drop 1).take (Tryz.prog.cellsOf 3))=xs[1]?:=No 1 _ rfl
 have e2:tr enc W n 3 ((cs.drop 2).take (Tryz.prog.cellsOf 3))=xs[2]?:=No 2 _ rfl
 have e3:tr enc W n 39 ((cs.drop 3).take (Tryz.prog.cellsOf 39))=xs[3]?:=No 3 _ rfl
 have e4:tr enc W n 39 ((cs.drop 4).take (Tryz.prog.cellsOf 39))=xs[4]?:=No 4 _ rfl
 have e5:tr enc W n 3 ((cs.drop 5).take (Tryz.prog.cellsOf 3))=xs[5]?:=No 5 _ rfl
 have e6:tr enc W n 3 ((cs.drop 6).take (Tryz.prog.cellsOf 3))=xs[6]?:=No 6 _ rfl
 have e7:tr enc W n 27 ((cs.drop 7).take (Tryz.prog.cellsOf 27))=xs[7]?:=No 7 _ rfl
 have e8:tr enc W n 27 ((cs.drop 8).take (Tryz.prog.cellsOf 27))=xs[8]?:=No 8 _ rfl
 have e9:tr enc W n 27 ((cs.drop 9).take (Tryz.prog.cellsOf 27))=xs[9]?:=No 9 _ rfl
 rw [c3]at e0 e1 e2 e5 e6
 rw [c39]at e3 e4
 rw [c27]at e7 e8 e9
 match xs,hn with
 | [x0,x1,x2,x3,x4,x5,x6,x7,x8,x9],_ =>
  match cs,hl with
  | [v0,v1,v2,v3,v4,v5,v6,v7,v8,v9],_ =>
   obtain⟨n0,a0,_,w0⟩:=DataW.trod_int Tryz.underlying3 (show tr enc W n 3 [v0]=some x0 from e0)
   obtain⟨n1,a1,_,w1⟩:=DataW.trod_int Tryz.underlying3 (show tr enc W n 3 [v1]=some x1 from e1)
   obtain⟨n2,a2,_,w2⟩:=DataW.trod_int Tryz.underlying3 (show tr enc W n 3 [v2]=some x2 from e2)
   obtain⟨d3,l3,ar1,ar0,arZ,arY,arX,arW⟩:=M5 (show tr enc W n 39 [v3]=some x3 from e3) (fun m hm=>hw m (by
    simp only [DataW.weights,Tryz.underlying89]
    exact DataW.weights_mem_each (j:=3) (t:=39) rfl rfl m hm))
   obtain⟨d4,l4,arV,arU,arT,arS,arR,arQ⟩:=M5 (show tr enc W n 39 [v4]=some x4 from e4) (fun m hm=>hw m (by
    simp only [DataW.weights,Tryz.underlying89]
    exact DataW.weights_mem_each (j:=4) (t:=39) rfl rfl m hm))
   obtain⟨n5,a5,_,w5⟩:=DataW.trod_int Tryz.underlying3 (show tr enc W n 3 [v5]=some x5 from e5)
   obtain⟨n6,a6,_,w6⟩:=DataW.trod_int Tryz.underlying3 (show tr enc W n 3 [v6]=some x6 from e6)
   obtain⟨n7,a7,_,w7⟩:=DataW.trod_int Tryz.underlying27 (show tr enc W n 27 [v7]=some x7 from e7)
   obtain⟨n8,a8,_,w8⟩:=DataW.trod_int Tryz.underlying27 (show tr enc W n 27 [v8]=some x8 from e8)
   obtain⟨n9,a9,_,w9⟩:=DataW.trod_int Tryz.underlying27 (show tr enc W n 27 [v9]=some x9 from e9)
   simp only [rL,and_true]at a0 a1 a2 a5 a6 a7 a8 a9
   have u7:=bounds_u64 w7
   have u8:=bounds_u64 w8
   have u9:=bounds_u64 w9
   refine⟨⟨⟨n0,n1,n2,d3,d4,n5,n6,n7.toNat,n8.toNat,n9.toNat⟩,l3,l4⟩,?_,⟨⟨aht (Om w5),by show n7.toNat<_;omega,by show n8.toNat<_;omega,by show n9.toNat<_;omega⟩,aht (Om w2),aht (Om w1),al6 ar0 arZ arY arX arW,al6 arU arT arS arR arQ⟩⟩
   show [v0,v1,v2,v3,v4,v5,v6,v7,v8,v9]=[iv n0,iv n1,iv n2,Sq d3,Sq d4,iv n5,iv n6,uv n7.toNat,uv n8.toNat,uv n9.toNat]
   have q7:uv n7.toNat=.int .u64 n7:=by unfold uv;rw [fj u7.1]
   have q8:uv n8.toNat=.int .u64 n8:=by unfold uv;rw [fj u8.1]
   have q9:uv n9.toNat=.int .u64 n9:=by unfold uv;rw [fj u9.1]
   rw [q7,q8,q9,a0,a1,a2,ar1,arV,a5,a6,a7,a8,a9]
theorem Sw {n:Nat}{cs:List Value}{x:DataW H × List MemPlace}(h:tr enc W n 24 cs=some x)(hw:∀m∈x.1.weights Tryz.prog 24,m≤reachBytes):
  ∃(l0:Int) (sl:Sl) (ops:List Kb),cs=[.int .i64 l0,.slice sl.a sl.n sl.c]∧dZ W.heap sl.a (ops.flatMap fun x=>x.o.cells)∧sl.n=ops.length∧∀o∈ops,Kb.Ok W.heap o:=by
 obtain⟨xs,n,_,rfl,hl,hn,No⟩:=DataW.trod_struct Tryz.underlying24 h
 rw [c24]at hl
 have e0:tr enc W n 3 ((cs.drop 0).take (Tryz.prog.cellsOf 3))=xs[0]?:=No 0 _ rfl
 have e1:tr enc W n 22 ((cs.drop 1).take (Tryz.prog.cellsOf 22))=xs[1]?:=No 1 _ rfl
 rw [c3]at e0
 rw [c22]at e1
 match xs,hn with
 | [x0,x1],_ =>
  match cs,hl with
  | [v0,v1],_ =>
   obtain⟨l0,a0,_,_⟩:=DataW.trod_int Tryz.underlying3 (show tr enc W n 3 [v0]=some x0 from e0)
   simp only [rL,and_true]at a0
   subst a0
   rcases DataW.trod_slice Tryz.underlying22 (show tr enc W n 22 [v1]=some x1 from e1)with⟨hc,_⟩|⟨a,len,cap,aoB,rest,k,_,hc,rfl,_,_,_,o0,anc,_,_⟩
   ·simp only [rL,and_true]at hc
    subst hc
    exact⟨l0,⟨none,0,0⟩,[],rfl,rfl,rfl,by simp⟩
   ·simp only [rL,and_true]at hc
    subst hc
    rw [c89]at anc
    have Ty:∀i,i<len→∃o:Kb,o.Ok W.heap∧∀j v,o.o.cells[j]?=some v→Go.Ev.cell W.heap (a.add (i*10+j))=some v:=fun i hi=>by
     have h1:=anc i hi
     have hi2:i<aoB.length:=by omega
     rw [br hi2]at h1
     obtain⟨cs1,Dp,hd⟩:=Option.bind_eq_some_iff.1 h1
     obtain⟨_,Jj,ZP⟩:=World.cells?_some Dp
     obtain⟨o,ho,vV⟩:=alE hd (fun m hm=>hw m (by
      simp only [DataW.weights,Tryz.underlying24]
      refine DataW.weights_mem_each (j:=1) (t:=22) rfl rfl m ?_
      simp only [DataW.weights,Tryz.underlying22,ck,bI]
      exact .inr (.inl (xj (cy.2 ⟨_,nQ hi2,rfl⟩) m hm))))
     refine⟨o,vV,fun j v hj=>?_⟩
     have nK:j<10:=(bp.1 hj).1
     have h3:Go.Ev.cell W.heap ((a.add (i*10)).add j)=cs1[j]?:=ZP j nK
     rw [←Go.Ev.qJ,h3,ho,hj]
    obtain⟨f,hf⟩:∃f:Nat→Kb,∀i,i<len→(f i).Ok W.heap∧∀j v,(f i).o.cells[j]?=some v→Go.Ev.cell W.heap (a.add (i*10+j))=some v :=
     ⟨fun i=>if hi:i<len then(Ty i hi).choose else⟨⟨0,0,0,⟨none,0,0⟩,⟨none,0,0⟩,0,0,0,0,0⟩,[],[]⟩,fun i hi=>by dsimp only;rw [dif_pos hi];exact(Ty i hi).choose_spec⟩
    refine⟨l0,⟨some a,len,cap⟩,(List.range len).map f,rfl,?_,by simp,fun o ho=>?_⟩
    ·intro j v hj
     have nK:j<len*10:=by
      have:=(bp.1 hj).1
      rw [Go.Ev.gN (f:=fun x:Kb=>x.o.cells) Go.Ev.IV]at this
      simpa using this
     have hd:j=j / 10*10+j%10:=by omega
     have hi:j / 10<len:=by omega
     have h4:=Go.Ev.ml (f:=fun x:Kb=>x.o.cells) Go.Ev.IV ((List.range len).map f) (j / 10) (j%10) (f (j / 10)) (by rw [bD,fL hi];rfl) (by omega)
     rw [←hd,hj]at h4
     have:=(hf (j / 10) hi).2 (j%10) v h4.symm
     rwa [←hd]at this
    ·obtain⟨i,hi,rfl⟩:=cy.1 ho
     exact(hf i (jQ.1 hi)).1
end
abbrev Wd:List (String × DataW Unit):=[("math/bits.deBruijn32tab",Rows.laid_math_bits_deBruijn32tab),("math/bits.deBruijn64tab",Rows.laid_math_bits_deBruijn64tab)]
theorem g64:Tryz.prog.globalNamed "math/bits.deBruijn64tab" = some BF:=by kernel_rfl
theorem tzT:∃t,(Tryz.prog.globals[BF]?).map (·.type)=some t∧Tryz.prog.underlying t=some (.array 64 5)∧Tryz.prog.cellsOf t=64:=⟨299,by kernel_rfl,by kernel_rfl,by kernel_rfl⟩
def toD {H:Type}(n:Nat):DataW H:=.lit (.int .u8 n)
theorem aa5:Rows.laid_math_bits_deBruijn64tab (H:=Unit)=.agg (Nt.map toD):=by kernel_rfl
theorem ahc {W:World}{m:Nat}{cs:List Value}{r:Nat}{p:List MemPlace}{enc:TypeId × Value→Unit}(h:DataW.trod enc Tryz.prog W 0 (fun _=>true) false m 5 cs=some (toD r,p)):cs=[.int .u8 (r:Int)]:=by
 obtain⟨n,a,b,_⟩:=DataW.trod_int Tryz.underlying5 h
 simp only [fP,toD,DataW.lit.injEq,Lit.int.injEq,true_and]at b
 rw [a,b.1]
theorem aaW {W:World}(h:laidMetH Tryz.prog Wd W):Go.Ev.eM W.heap BF (Nt.map fun n=>.int .u8 (n:Nat)):=by
 rw [MakeChecks.laidMetH_plain _ _ _ (by kernel_rfl)]at h
 obtain⟨ps,hL,_,hP⟩:=h
 obtain⟨g1,t1,cs1,f1,p1,q1,_,_,_,_,rest,rfl⟩:=hL
 obtain⟨g0,t0,cs0,f0,p0,q0,hg0,ht0,hv0,hd0,awv,rfl⟩:=rest
 obtain rfl:=bt (g64.symm.trans hg0)
 obtain⟨t,ht,hu,hc⟩:=tzT
 obtain rfl:=bt (ht.symm.trans ht0)
 rw [aa5]at hd0
 obtain⟨xs,m,_,hx,hl,hn,No⟩:=DataW.trod_array hu hd0
 rw [hc]at hl
 rw [c5]at No
 simp only [fP,DataW.agg.injEq]at hx
 have Km:cs0.toList=Nt.map fun n=>.int .u8 (n:Nat):=by
  refine cG fun j=>?_
  by_cases hj:j<64
  ·have hr:Nt[j]?=some (Nt[j]'(by rw [Go.Ev.DP];exact hj)):=br _
   generalize Nt[j]'(by rw [Go.Ev.DP];exact hj)=r at hr
   have T9:(xs[j]?).map (·.1)=some (toD r):=by
    rw [←bD,←hx.1,bD,hr]
    rfl
   obtain⟨x,hx1,hx2⟩:=jd.1 T9
   have h1:=No j hj
   rw [hx1]at h1
   obtain⟨d,p⟩:=x
   simp only at hx2
   subst hx2
   have h2:=ahc h1
   have h3:cs0.toList[j]?=some (.int .u8 (r:Int)):=by
    have:=congrArg (fun l:List Value=>l[0]?) h2
    simp only [gF,fi]at this
    simpa using this
   rw [h3,bD,hr];rfl
  ·rw [bV (by omega),bV (by rw [bA,Go.Ev.DP];omega)]
 have ur:MemPlace.cell BF 0∈MemPlace.row ⟨BF,0,none⟩ cs0.size:=by
  have e:cs0.size=64:=hl
  rw [e]
  exact cy.2 ⟨0,jQ.2 (by omega),rfl⟩
 obtain⟨⟨c,t',hb⟩,_⟩:=hP BF 0 (by simp [ur])
 have hv:=hv0
 unfold World.var? at hv
 rw [g64,dX,hb]at hv
 obtain rfl:=bt hv
 exact⟨t',by rw [hb,←Km]⟩
theorem YZ(os:Os)(args:Array Value):laidMetH Tryz.prog Wd ((World.doorLaid Tryz.prog 4000 os).forCall (fun _ _=>0) ⟨#[],args,[]⟩).memory:=by
 unfold Wd
 rw [MakeChecks.laidMetH_plain _ _ _ (by kernel_rfl)]
 exact laidMet_of_run' 8 (by kernel_rfl) (by kernel_rfl)
section
variable {W:World}
theorem Wf {W W':World}(hs:Go.Ev.gj W W')(hk:Go.Ev.bY Go.Ev.N W.heap W'.heap)(may:MemPlace→Prop):W.keptBut W' may:=by
 refine⟨hs.1,hs.2.2.1,fun i hi=>?_⟩
 rw [hk.2 i hi id]
 cases h:W.heap[i]? with
 |none=>rfl
 |some o =>
  cases o<;>first|exact rfl|exact⟨rfl,rfl,rfl,fun _ _=>rfl⟩|exact .inr ⟨rfl,rfl⟩
theorem U8 {W W':World}(hk:Go.Ev.bY Go.Ev.N W.heap W'.heap){p:MemPlace}(hp:p.block<W.heap.size):W.sameAt W' p:=by
 cases p with
 |cell b off =>
  show Go.Ev.cell W'.heap ⟨b,off,none⟩=Go.Ev.cell W.heap ⟨b,off,none⟩
  unfold Go.Ev.cell
  rw [hk.2 b hp id]
 |map b=>exact hk.2 b hp id
end
end Go.Proofs.YtjigacanjlppiaaGreatDoor
namespace Go.Proofs.YtjigacanjlppiaaGreatDoor
theorem oG {a b:Bool}(ha:a=true)(hb:b=true):(a&&b)=true:=by rw [ha,hb];rfl
theorem agn:(laidOutB Tryz.pinned.checked.prog)=true:=by kernel_rfl
theorem aai:(mapsRowed Tryz.pinned.checked.prog)=true:=by kernel_rfl
theorem ak1:(Tryz.pinned.checked.prog.stops==[])=true:=by kernel_rfl
theorem ak0:(Tryz.pinned.checked.prog.stopKnobs==[])=true:=by kernel_rfl
theorem ak6:(Rows.tableWordsRow.plainKeys==Tryz.pinned.checked.prog.plainKeys)=true:=by kernel_rfl
theorem ak5:(Tryz.pinned.checked.prog.stopsHeard)=true:=by kernel_rfl
theorem ak4:(Tryz.pinned.checked.prog.mayEnter)=true:=by kernel_rfl
theorem ak3:(Rows.tableWordsRow.lifted==Tryz.pinned.checked.prog.liftsFinal)=true:=by kernel_rfl
theorem ak2:(Tryz.pinned.checked.prog.make==some Rows.tableWordsRow.make)=true:=by kernel_rfl
theorem aaj:Tryz.pinned.checked.prog.mainIs=some (true,("b8ae2bf7243db7956e46e89f20a61fec621107f73a19fb5570f3943edb674345" : String).toList):=by kernel_rfl
theorem UY:false=Tryz.pinned.checked.prog.looks []:=by kernel_rfl
theorem ak7:Tryz.pinned.checked.prog.wantsStandIn 24=false:=by kernel_rfl
end Go.Proofs.YtjigacanjlppiaaGreatDoor
