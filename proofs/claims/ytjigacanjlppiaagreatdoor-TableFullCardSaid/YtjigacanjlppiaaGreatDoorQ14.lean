/- Closed tables; All; some. No condition. -/
import Derived.Test.YtjigacanjlppiaaGreatDoorQ13
import Derived.Test.YtjigacanjlppiaaGreatDoorRows
import Derived.ProofKit
import Derived.SizedLaws
import Derived.LaidMore
import Derived.OpenShut
set_option linter.all false
set_option maxRecDepth 1000000
open Go.IntKind (wrap)
namespace Go.Ev
open Go.Proofs
section
variable {h h' h0 h1 h2 g:Hp} {q q2:HQ} {s:RS} {nd:List di} {id tb hn:Nat} {T:TD} {R:RP} {a:Sl} {ob:Option Nat} {l l':List Nm} {c0 c1 p f yl:Nat} {v0:Value}
theorem UB(x:ti h q tb 0)(z:Int)(hR:∀g,bY N h g→R (vt #[uv 0,.slice none 0 0]) g) :
  bq PG 30 #[vp (sa tb),uv f,vi z] h R:=by
 refine RA ?_
 unfold acm
 refine dh fun h1 e1=>dh fun h2 e2=>dh fun h3 e3=>?_
 have k1:bY N h h1:=e1▸cF _ _ _
 have k2:bY N h1 h2:=e2▸cF _ _ _
 have k3:bY N h2 h3:=e3▸cF _ _ _
 have z1:h1.size=h.size+1:=by rw [e1];simp
 have z2:h2.size=h.size+2:=by rw [e2,iH,z1]
 have z3:h3.size=h.size+3:=by rw [e3,iH,z2]
 have w5:eM h1 h.size [vi z]:=e1▸du h #[vi z] _
 have w6:eM h2 h1.size [vu 0]:=e2▸du h1 #[vu 0] _
 have w7:eM h3 h2.size [.slice none 0 0]:=e3▸du h2 #[.slice none 0 0] _
 clear e1 e2 e3
 have w5:=bF (k2.trans k3) w5 _root_.id
 have w6:=bF k3 w6 _root_.id
 rw [show nb h=ad h.size from rfl,show nb h1=ad h1.size from rfl,show nb h2=ad h2.size from rfl]
 have kh3:=k1.trans (k2.trans k3)
 clear k1 k2 k3
 refine⟨_,(bS w5 0).trans rfl,eu w5 (i:=0) rfl (by simp) fun h4 v5 j4=>?_⟩
 have w6:=bF j4 w6 (by omega)
 have w7:=bF j4 w7 (by omega)
 have z4:h3.size≤h4.size:=j4.1
 have kh4:bY N h h4:=cL kh3 j4 fun b e=>by omega
 clear w5 j4
 refine dh fun h5 e5=>dh fun h6 e6=>?_
 have k5:bY N h4 h5:=e5▸cF _ _ _
 have k6:bY N h5 h6:=e6▸cF _ _ _
 have z5:h5.size=h4.size+1:=by rw [e5];simp
 have z6:h6.size=h4.size+2:=by rw [e6,iH,z5]
 have w8:eM h5 h4.size [.slice none 0 0]:=e5▸du h4 #[.slice none 0 0] _
 have w9:eM h6 h5.size [vu 0]:=e6▸du h5 #[vu 0] _
 clear e5 e6
 have w8:=bF k6 w8 _root_.id
 have w6:=bF (k5.trans k6) w6 _root_.id
 have w7:=bF (k5.trans k6) w7 _root_.id
 have kh6:=kh4.trans (k5.trans k6)
 rw [show nb h4=ad h4.size from rfl,show nb h5=ad h5.size from rfl]
 clear k5 k6 v5
 refine eu w9 (i:=0) rfl (by simp) fun h7 v9 j7=>?_
 have w6:=bF j7 w6 (by omega)
 have w7:=bF j7 w7 (by omega)
 have w8:=bF j7 w8 (by omega)
 have kh7:bY N h h7:=cL kh6 j7 fun b e=>by omega
 have z7:h6.size≤h7.size:=j7.1
 clear w9 j7 kh6 kh4 kh3
 refine AP (fun h8 c0 c1 z8 k8=>⟨_,rfl,?_⟩) (v0:=vp (sa tb)) rfl
 have w6:=bF k8 w6 _root_.id
 have w7:=bF k8 w7 _root_.id
 have w8:=bF k8 w8 _root_.id
 have kh8:=kh7.trans k8
 clear v9 k8 kh7
 refine qj (mh.callee 107 (by kernel_rfl)) fun H fn gl kH zH WF GW=>?_
 have w6:=bF kH w6 _root_.id
 have w7:=bF kH w7 _root_.id
 have w8:=bF kH w8 _root_.id
 have c0:=bF kH c0 _root_.id
 have GS:=kh8.trans kH
 have xH:=x.cI GS
 refine MR xH c0 ⟨.ready,none,GW,nofun,?_⟩
 have ll:=iJ GW
 generalize he:H.setIfInBounds (h8.size+1) _=g2
 have k2:bY (fun b=>b=h8.size+1) H g2:=he▸hN ll
 clear he
 have d2:=dv k2 WF (by omega)
 have r6:=bF k2 w6 (by omega)
 have r7:=bF k2 w7 (by omega)
 have r8:=bF k2 w8 (by omega)
 refine⟨⟨none,0,0⟩,(bS r8 0).trans rfl,eu r6 (i:=0) rfl (by simp) fun g3 v6' k3=>?_⟩
 have r7:=bF k3 r7 (by omega)
 have r8:=bF k3 r8 (by omega)
 refine⟨⟨⟨none,0,0⟩,(bS r8 0).trans rfl,rfl⟩,eu r7 (i:=0) rfl (by simp) fun g4 v7' k4=>?_⟩
 have d4:=dv k4 (dv k3 d2 (by omega)) (by omega)
 refine⟨d4,dh fun g5 e5=>?_⟩
 have k5:bY (fun b=>b=h8.size) g4 g5:=e5▸hN (iJ d4)
 clear e5
 have w6:=bF k5 (bF k4 v6' (by omega)) (by omega)
 have w7:=bF k5 v7' (by omega)
 refine⟨_,(bS w6 0).trans rfl,⟨none,0,0⟩,(bS w7 0).trans rfl,hR g5 ?_⟩
 exact cL (cL (cL (cL GS k2 fun b hb=>by omega) k3 fun b hb=>by omega) k4 fun b hb=>by omega) k5 fun b hb=>by omega
theorem aga(x:ti h q tb 0)(hR:∀g,bY N h g→R (.slice none 0 0) g):bq PG 26 #[vp (sa tb)] h R:=by
 refine RE ?_
 unfold aco
 refine dh fun h1 e1=>?_
 have k1:bY N h h1:=e1▸cF _ _ _
 have z1:h1.size=h.size+1:=by rw [e1];simp
 have w3:eM h1 h.size [.slice none 0 0]:=e1▸du h #[.slice none 0 0] _
 clear e1
 rw [show nb h=ad h.size from rfl]
 refine AP (f:=0) (fun h8 c0 c1 z8 k8=>⟨_,rfl,?_⟩) (v0:=vp (sa tb)) rfl
 have w3:=bF k8 w3 _root_.id
 have kh8:=k1.trans k8
 clear k1 k8
 refine qj (mh.callee 107 (by kernel_rfl)) fun H fn gl kH zH WF GW=>?_
 have w3:=bF kH w3 _root_.id
 have c0:=bF kH c0 _root_.id
 have GS:=kh8.trans kH
 refine MR (x.cI GS) c0 ⟨.ready,none,GW,nofun,?_⟩
 have ll:=iJ GW
 generalize he:H.setIfInBounds (h8.size+1) _=g2
 have k2:bY (fun b=>b=h8.size+1) H g2:=he▸hN ll
 clear he
 have d2:=dv k2 WF (by omega)
 have r3:=bF k2 w3 (by omega)
 have ZH:=cL GS k2 fun b hb=>by omega
 refine⟨⟨none,0,0⟩,(bS r3 0).trans rfl,sortBs (BL.nil h g2) nofun gQ (by decide) fun l' g3 b3 p3 _ k3=>⟨⟨none,0,0⟩,rfl,?_⟩⟩
 have d3:=dv k3 d2 nofun
 refine⟨d3,dh fun g5 e5=>?_⟩
 have k5:bY (fun b=>b=h8.size) g3 g5:=e5▸hN (iJ d3)
 exact hR g5 (cL (cL ZH k3 fun b hb=>by cases hb) k5 fun b hb=>by omega)
theorem HF(n:Nat):n≤mR (n:Nat):=by unfold mR;split<;>omega
theorem U7(T:TD):jZ (mR (T.dc.length:Nat)) (T.oS 0) 0 []=(0,T.oo.map (·.2)):=by
 rw [Ae]
 exact BR _ _ _ (by rw [T.qo];have:=HF T.dc.length;simpa using this)
theorem Z9(p0:qA h q s nd tb hn T)(k0:oH T)(r0:eM h c0 [vp (sa tb)]) (J:Nat→Sl→Option Nat→List Nm→Hp→Prop)
  (GV:∀a ob gw g,BL h g a ob gw→gw.map (·.key)=T.oo.map (·.2)→(∀y∈gw,fK y.key)→bY N h g→J 0 a ob gw g)
  (Oo:∀k a ob gw g y,J k a ob gw g→gw[k]?=some y→(∃hB,BL hB g a ob gw)∧mV PG yl [.slice (sa y.c) y.key.length y.key.length] g fun v g'=>(v=vb true∧J (k+1) a ob gw g')∨(v=vb false∧R (vt #[]) g'))
  (Fj:∀a ob gw g,J gw.length a ob gw g→R (vt #[]) g) :
  bq PG 98 #[.func (.yield yl) #[] #[],vp (sa c0)] h R:=by
 refine Rk ?_
 unfold abE
 have cc:=(bS r0 0).trans (rfl:_=some (Value.pointer (sa tb)))
 have o0:=p0.len
 refine⟨_,cc,_,cc,Z4 p0.tr (by omega) ⟨_,rfl,⟨_,cc,rfl⟩,ac3 p0 k0 (by decide) _ fun a ob gw g bl el e8 kg=>⟨_,a,rfl,?_⟩⟩⟩
 rw [U7]at el
 have an:=bl.len
 have AJ:gw.length≤2097152:=by
  have h1:=congrArg List.length el
  rw [bA,bA,T.qo]at h1
  omega
 refine Ft (uP:=a) (fun p s0 uP qS wJ h2=>∃k:Nat,k≤gw.length∧p=gw.length-k∧.func (.yield yl) #[] #[]=s0∧a=uP∧qS=(a.n:Int)∧wJ=(k:Int)∧J k a ob gw h2) gw.length
  ⟨0,cP _,rfl,rfl,rfl,rfl,rfl,GV a ob gw g bl el e8 kg⟩ ?_
 rintro p s0 uP qS wJ g0 h2 ⟨k,hk,rfl,rfl,rfl,rfl,rfl,hJ⟩
 unfold Rj
 refine ca (fun fE=>?_) fun o5=>?_
 ·have zb:k<gw.length:=by omega
  have hy:gw[k]?=some (gw[k]'zb):=br zb
  generalize gw[k]'zb=y at hy
  obtain⟨⟨_,bl2⟩,hyt⟩:=Oo k a ob gw h2 y hJ hy
  obtain⟨b,hb,ha,hc⟩:=bl2.gl.at (o:=k) (v:=bsV y) (by rw [bD,hy];rfl)
  refine⟨⟨by omega,by omega⟩,cW ha ⟨⟨some (ad y.c),y.key.length,y.key.length⟩,by rw [bu,cQ];exact hc,.inr ⟨yl,rfl,hyt.mono fun v g' hv=>?_⟩⟩⟩
  rcases hv with⟨rfl,hJ'⟩|⟨rfl,hR⟩
  ·exact⟨true,rfl,cj rfl ⟨gw.length-(k+1),by omega,k+1,zb,rfl,rfl,rfl,rfl,by rw [bU (by omega) (by omega)];rfl,hJ'⟩⟩
  ·exact⟨false,rfl,cr rfl hR⟩
 ·obtain rfl:k=gw.length:=by omega
  exact Fj a ob gw h2 hJ
theorem UH(gx:Gs h q s nd)(x:ti h q tb 0)(r0:eM h c0 [vp (sa tb)]) (hR:∀g,bY N h g→R (vt #[]) g):bq PG 98 #[.func (.yield yl) #[] #[],vp (sa c0)] h R:=by
 refine Rk ?_
 unfold abE
 have cc:=(bS r0 0).trans (rfl:_=some (Value.pointer (sa tb)))
 refine⟨_,cc,_,cc,ac5 gx x ⟨_,rfl,⟨_,cc,rfl⟩,UB x _ fun g kg=>⟨_,⟨none,0,0⟩,rfl,?_⟩⟩⟩
 refine Ft (uP:=⟨none,0,0⟩) (fun p s0 uP qS wJ h2=>qS=0∧wJ=0∧g=h2) 0 ⟨rfl,rfl,rfl⟩ ?_
 rintro p s0 uP qS wJ g0 h2 ⟨rfl,rfl,rfl⟩
 unfold Rj
 exact cj rfl (hR g kg)
def wI(z:Int)(l:List (LN)):List (LN):=if z<0 then l else l.take z.toNat
structure Zt (hB:Hp) (z:Int) (b3 b5 l db:Nat) (r:Loop) (k:Nat) (a:Sl) (ob:Option Nat) (gw:List Nm) (g:Hp) (a2:Sl) (IW:Option Nat):Prop where
 r3:eM g b3 [vi z]
 r5:eM g b5 [.slice a2.a a2.n a2.c]
 lr:g[l]?=some (.loop r)
 dr:g[db]?=some (.deferred (some []))
 bl:BL hB g a ob gw
 k8:∀y∈gw,fK y.key
 b2:BL hB g a2 IW (gw.take k)
 n2:∀b,IW=some b→ob≠some b∧(∀y∈gw,y.c≠b)∧b≠b3∧b≠b5∧b≠l∧b≠db
 fb:∀b,b=b3∨b=b5∨b=l∨b=db→ob≠some b∧∀y∈gw,y.c≠b
 lt:0≤z→(k:Int)<z
 kp:bY N hB g
 len:gw.length≤2097152
theorem NI {hB:Hp}{z:Int}{b3 b5 l db:Nat}{gl:Nat→Value}{fn:FuncId}{k:Nat}{gw:List Nm}{y:Nm}{a2:Sl}{IW:Option Nat}{R:RP}(hd:b3<b5∧b5<db∧db<l)(hb:hB.size≤b3)
  (st:Zt hB z b3 b5 l db (qH (ad b3) (ad b5) gl fn db .ready none) k a ob gw g a2 IW) (hy:gw[k]?=some y)
  (LH:∀g' a' jK,Zt hB z b3 b5 l db (qH (ad b3) (ad b5) gl fn db .ready none) (k+1) a ob gw g' a' jK→R (vb true) g')
  (Wp:∀g' a' jK,BL hB g' a' jK (gw.take (k+1))→0≤z→z.toNat=k+1→eM g' b5 [.slice a'.a a'.n a'.c]→g'[db]?=some (.deferred (some []))→g'[l]?=some (.loop {qH (ad b3) (ad b5) gl fn db .ready none with state:=.done,pending:=some (.exit 0)})→bY N hB g'→(∀b,jK=some b→b≠b3∧b≠b5∧b≠l∧b≠db)→R (vb false) g') :
  mV PG l [.slice (sa y.c) y.key.length y.key.length] g R:=by
 have zb:k<gw.length:=(bp.1 hy).1
 have hym:y∈gw:=bx hy
 have et:gw.take (k+1)=gw.take k++[y]:=by rw [jP,hy];rfl
 have YU:(gw.take k).length=k:=by rw [dm];omega
 have an:=st.b2.len
 rw [YU]at an
 have AJ:=st.len
 refine Xi (a0:=⟨some (ad y.c),y.key.length,y.key.length⟩) st.lr ?_
 unfold Xk
 have ll:=iJ st.lr
 refine⟨_,st.lr,rfl,dh fun h4 e4=>?_⟩
 have k4:bY (fun b=>b=l) g h4:=e4▸hN ll
 have l4:h4[l]?=some (.loop {qH (ad b3) (ad b5) gl fn db .ready none with state:=.busy}):=by rw [e4];exact t7 ll
 clear e4
 have r3:=bF k4 st.r3 (by omega)
 have r5:=bF k4 st.r5 (by omega)
 have d4:=dv k4 st.dr (by omega)
 have fl:=fun b hb=>st.fb b hb
 have bl4:=st.bl.eG k4 fun b e=>fl b (by omega)
 have b24:BL hB h4 a2 IW (gw.take k):=st.b2.eG k4 fun b e=>⟨fun z=>(st.n2 b z).2.2.2.2.1 e,fun y hy=>(fl b (by omega)).2 y (dK hy)⟩
 have k0:=cL st.kp k4 fun b e=>by omega
 have ry:=bl4.row y hym
 refine⟨a2,(bS r5 0).trans rfl,b24.add (y:=y) k0.1 ry.1 ry.2.1 (fun e=>(st.n2 _ e).2.1 y hym rfl) (fun w hw e=>?_) (by omega) fun a' c' h6 jK b26 k6 nw6=>?_⟩
 ·obtain⟨i,hi⟩:=bT.1 hw
  have hik:i<k:=by
   have:=(bp.1 hi).1
   omega
  rw [f9 hik]at hi
  have hn:=st.bl.CV
  have:=EO (lt:=fun a b:Nat=>a≠b) hn hik (by rw [bD,hi];rfl) (by rw [bD,hy];rfl)
  exact this e
 have n2':∀b,jK=some b→ob≠some b∧(∀y∈gw,y.c≠b)∧b≠b3∧b≠b5∧b≠l∧b≠db:=fun b e=>by
  rcases nw6 b e with z|z
  ·exact st.n2 b z
  ·have q1:=eE r3
   have q2:=eE r5
   have q3:=iJ l4
   have q4:=iJ d4
   refine⟨fun e=>?_,fun y hy e=>?_,by omega,by omega,by omega,by omega⟩
   ·have:=bl4.gl.lt e;omega
   ·have:=eE (bl4.row y hy).1;omega
 have nS:∀b,b=b3∨b=b5∨b=l∨b=db→IW≠some b:=fun b hb e=>by
  have:=st.n2 b e;omega
 have r5':=bF k6 r5 (nS b5 (by omega))
 have r3':=bF k6 r3 (nS b3 (by omega))
 refine eu r5' (i:=0) rfl (by simp) fun h7 w5 k7=>?_
 have w3:=bF k7 r3' (by omega)
 have l7:=dv k7 (dv k6 l4 (nS l (by omega))) (by omega)
 have d7:=dv k7 (dv k6 d4 (nS db (by omega))) (by omega)
 have bl6:BL hB h6 a ob gw:=bl4.eG k6 fun b e=>⟨(st.n2 b e).1,(st.n2 b e).2.1⟩
 have bl7:=bl6.eG k7 fun b e=>fl b (by omega)
 have b27:BL hB h7 ⟨a',a2.n+1,c'⟩ jK (gw.take (k+1)):=by
  rw [et]
  exact b26.eG k7 fun b e=>⟨fun z=>(n2' b z).2.2.2.1 e,fun y' DF=>(fl b (by omega)).2 y' (by rw [←et]at DF;exact dK DF)⟩
 have k07:=cL (cL k0 k6 fun b e=>b24.gl.new b e) k7 fun b e=>by omega
 have ZG:=iJ l7
 refine⟨⟨a',a2.n+1,c'⟩,(bS w5 0).trans rfl,_,(bS w3 0).trans rfl,?_⟩
 by_cases hz:z=((k+1:Nat):Int)
 ·refine cr (beq_iff_eq.2 (show ((a2.n+1:Nat):Int)=z by omega)) ⟨_,l7,?_⟩
  generalize Q7:h7.setIfInBounds l _=h8
  have k8:bY (fun b=>b=l) h7 h8:=Q7▸hN ZG
  have l8:h8[l]?=some (.loop {qH (ad b3) (ad b5) gl fn db .ready none with state:=.done,pending:=some (.exit 0)}):=by rw [←Q7];exact t7 ZG
  exact Wp h8 ⟨a',a2.n+1,c'⟩ jK (b27.eG k8 fun b e=>⟨fun z=>(n2' b z).2.2.2.2.1 e,fun y hy=>(fl b (by omega)).2 y (dK hy)⟩) (by omega) (by omega) (bF k8 w5 (by omega)) (dv k8 d7 (by omega)) l8 (cL k07 k8 fun b e=>by omega) fun b e=>(n2' b e).2.2
 ·refine cj (beq_eq_false_iff_ne.2 (show ((a2.n+1:Nat):Int)≠z by omega)) ⟨_,l7,?_⟩
  generalize Q7:h7.setIfInBounds l _=h8
  have k8:bY (fun b=>b=l) h7 h8:=Q7▸hN ZG
  have l8:h8[l]?=some (.loop (qH (ad b3) (ad b5) gl fn db .ready none)):=by rw [←Q7];exact t7 ZG
  exact LH h8 ⟨a',a2.n+1,c'⟩ jK ⟨bF k8 w3 (by omega),bF k8 w5 (by omega),l8,dv k8 d7 (by omega),bl7.eG k8 fun b e=>fl b (by omega),st.k8,b27.eG k8 fun b e=>⟨fun z=>(n2' b z).2.2.2.2.1 e,fun y hy=>(fl b (by omega)).2 y (dK hy)⟩,n2',st.fb,fun h0=>by have:=st.lt h0;omega,cL k07 k8 fun b e=>by omega,st.len⟩
theorem Hu {z:Int}(h':Hp)(hz:z≠0){t:OA}
  (hK:∀h3,eM h3 h.size [vi z]→eM h3 (h.size+1) [.slice none 0 0]→eM h3 (h.size+2) [vp t]→h3.size=h.size+3→bY N h h3→yU PG fN (.func (.func 98) #[] #[vp (some (ad (h.size+2)))]) #[12] (SE (sub [1,1,1,0,1,0] (bd Tryz.f33))) (SD (sub [1,1,1,0,1,0] (bd Tryz.f33))) [(3,vp (sa h.size)),(5,vp (some (ad (h.size+1))))] 22 h3 (CA (fun h4=>∃Hs:Sl,cell h4 (ad (h.size+1))=some (.slice Hs.a Hs.n Hs.c)∧h4[h3.size]?=some (.deferred (some []))∧gi (h4.setIfInBounds h3.size (.deferred none)) fun h5=>R (.slice Hs.a Hs.n Hs.c:Value) h5) (fun h4=>h4[h3.size]?=some (.deferred (some []))∧gi (h4.setIfInBounds h3.size (.deferred none)) fun h6=>R (.slice none 0 0:Value) h6) fun id h4=>if id=0 then(∃Hs:Sl,cell h4 (ad (h.size+1))=some (.slice Hs.a Hs.n Hs.c)∧h4[h3.size]?=some (.deferred (some []))∧gi (h4.setIfInBounds h3.size (.deferred none)) fun h7=>R (.slice Hs.a Hs.n Hs.c:Value) h7)else False)) :
  bq PG 33 #[vp t,vi z] h R:=by
 refine Rz ?_
 unfold acj
 refine dh fun h1 e1=>dh fun h2 e2=>?_
 have k1:bY N h h1:=e1▸cF _ _ _
 have k2:bY N h1 h2:=e2▸cF _ _ _
 have z1:h1.size=h.size+1:=by rw [e1];simp
 have z2:h2.size=h.size+2:=by rw [e2,iH,z1]
 have w3:eM h1 h.size [vi z]:=e1▸du h #[vi z] _
 have w5:eM h2 h1.size [.slice none 0 0]:=e2▸du h1 #[.slice none 0 0] _
 clear e1 e2
 have w3:=bF k2 w3 _root_.id
 rw [show nb h=ad h.size from rfl,show nb h1=ad (h.size+1)from by unfold nb ad;rw [z1]]
 rw [z1]at w5
 refine⟨_,(bS w3 0).trans rfl,cj (beq_eq_false_iff_ne.2 hz) (aca ?_)⟩
 unfold aof
 refine dh fun h3 e3=>⟨_,rfl,?_⟩
 have k3:bY N h2 h3:=e3▸cF _ _ _
 have w6:eM h3 h2.size [vp t]:=e3▸du h2 #[vp t] _
 have z3:h3.size=h.size+3:=by rw [e3,iH,z2]
 clear e3
 rw [show nb h2=ad (h.size+2)from by unfold nb ad;rw [z2]]
 rw [z2]at w6
 exact hK h3 (bF k3 w3 _root_.id) (bF k3 w5 _root_.id) w6 z3 (k1.trans (k2.trans k3))
theorem Ht {t:OA}(hR:∀g,bY N h g→R (.slice none 0 0) g):bq PG 33 #[vp t,vi 0] h R:=by
 refine Rz ?_
 unfold acj
 refine dh fun h1 e1=>dh fun h2 e2=>?_
 have k1:bY N h h1:=e1▸cF _ _ _
 have k2:bY N h1 h2:=e2▸cF _ _ _
 have w3:eM h1 h.size [vi 0]:=e1▸du h #[vi 0] _
 have w5:eM h2 h1.size [.slice none 0 0]:=e2▸du h1 #[.slice none 0 0] _
 exact⟨_,(bS (bF k2 w3 _root_.id) 0).trans rfl,cr rfl ⟨⟨none,0,0⟩,(bS w5 0).trans rfl,hR h2 (k1.trans k2)⟩⟩
theorem akn(p0:qA h q s nd tb hn T)(k0:oH T)(z:Int)
  (hR:∀a ob gw g,BL h g a ob gw→gw.map (·.key)=wI z (T.oo.map (·.2))→(∀y∈gw,fK y.key)→bY N h g→R (.slice a.a a.n a.c) g) :
  bq PG 33 #[vp (sa tb),vi z] h R:=by
 by_cases hz:z=0
 ·subst hz
  exact Ht fun g kg=>hR ⟨none,0,0⟩ none [] g (BL.nil _ _) rfl nofun kg
 refine Hu h hz fun h3 w3 w5 w6 z3 k3=>?_
 refine qj (mh.callee 98 (by kernel_rfl)) fun H fn gl kH zH WF GW=>?_
 have w3:=bF kH w3 _root_.id
 have w5:=bF kH w5 _root_.id
 have w6:=bF kH w6 _root_.id
 have GS:=k3.trans kH
 have HU:H[h3.size+1]?=some (.loop (qH (ad h.size) (ad (h.size+1)) gl fn h3.size .ready none)):=GW
 clear GW
 have key:∀a' jK wU g',BL h g' a' jK wU→wU.map (·.key)=wI z (T.oo.map (·.2))→(∀y∈wU,fK y.key)→eM g' (h.size+1) [.slice a'.a a'.n a'.c]→g'[h3.size]?=some (.deferred (some []))→bY N h g'→(∀b,jK=some b→b≠h3.size)→(∀y∈wU,y.c≠h3.size) →
   ∃Hs:Sl,cell g' (ad (h.size+1))=some (.slice Hs.a Hs.n Hs.c)∧g'[h3.size]?=some (.deferred (some []))∧gi (g'.setIfInBounds h3.size (.deferred none)) fun h5=>R (.slice Hs.a Hs.n Hs.c:Value) h5:=fun a' jK wU g' bl el e8 w d k ho hc=>by
  refine⟨a',(bS w 0).trans rfl,d,dh fun g5 e5=>?_⟩
  have k5:bY (fun b=>b=h3.size) g' g5:=e5▸hN (iJ d)
  exact hR a' jK wU g5 (bl.eG k5 fun b e=>⟨fun z=>ho b z e,fun y hy=>e▸hc y hy⟩) el e8 (cL k k5 fun b e=>by omega)
 have vF:=zH
 refine Z9 (p0.cI GS) k0 w6 (fun k a ob gw g=>(∃a2 IW,Zt h z h.size (h.size+1) (h3.size+1) h3.size (qH (ad h.size) (ad (h.size+1)) gl fn h3.size .ready none) k a ob gw g a2 IW)∧gw.map (·.key)=T.oo.map (·.2)) ?_ ?_ ?_
 ·intro a ob gw g bl el e8 kg
  have AJ:gw.length≤2097152:=by
   have h1:=congrArg List.length el
   rw [bA,bA,T.qo]at h1
   have:=p0.len
   omega
  have hn:∀b,b<H.size→ob≠some b∧∀y∈gw,y.c≠b:=fun b hb=>⟨fun e=>by have:=bl.gl.new b e;omega,fun y hy e=>by have:=(bl.row y hy).2.1;omega⟩
  have blh:BL h g a ob gw:=⟨⟨bl.gl.sl,fun b e=>bP GS.1 (bl.gl.new b e)⟩,fun y hy=>⟨(bl.row y hy).1,bP GS.1 (bl.row y hy).2.1,(bl.row y hy).2.2⟩,bl.CV⟩
  refine⟨⟨⟨none,0,0⟩,none,bF kg w3 _root_.id,bF kg w5 _root_.id,dv kg HU _root_.id,dv kg WF _root_.id,blh,e8,BL.nil _ _,nofun,fun b hb=>hn b (by omega),fun h0=>by omega,GS.trans kg,AJ⟩,el⟩
 ·rintro k a ob gw g y ⟨⟨a2,IW,st⟩,el⟩ hy
  have zb:k<gw.length:=(bp.1 hy).1
  refine⟨?_,NI ⟨by omega,by omega,by omega⟩ (bH _) st hy (fun g' a' jK st'=>.inl ⟨rfl,⟨a',jK,st'⟩,el⟩) fun g' a' jK b2 h0 hz2 w5' d' l' k' ne=>.inr ⟨rfl,.done,some (.exit 0),l',nofun,?_⟩⟩
  ·exact⟨h,st.bl⟩
  ·have ll:=iJ l'
   generalize he:g'.setIfInBounds (h3.size+1) _=g2
   have k2:bY (fun b=>b=h3.size+1) g' g2:=he▸hN ll
   unfold CA
   dsimp only
   rw [if_pos rfl]
   refine key a' jK (gw.take (k+1)) g2 (b2.eG k2 fun b e=>⟨fun z=>(ne b z).2.2.1 e,fun y hy=>(st.fb b (by omega)).2 y (dK hy)⟩) ?_ (fun y hy=>st.k8 y (dK hy)) (bF k2 w5' (by omega)) (dv k2 d' (by omega)) (cL k' k2 fun b e=>by omega) (fun b e=>(ne b e).2.2.2) fun y hy=>(st.fb _ (by omega)).2 y (dK hy)
   unfold wI
   rw [if_neg (by omega),←el,hz2,mM]
 ·rintro a ob gw g ⟨⟨a2,IW,st⟩,el⟩
  refine⟨.ready,none,st.lr,nofun,?_⟩
  have ll:=iJ st.lr
  generalize he:g.setIfInBounds (h3.size+1) _=g2
  have k2:bY (fun b=>b=h3.size+1) g g2:=he▸hN ll
  have b2:=st.b2
  rw [dE]at b2
  refine key a2 IW gw g2 (b2.eG k2 fun b e=>⟨fun z=>(st.n2 b z).2.2.2.2.1 e,fun y hy=>(st.fb b (by omega)).2 y hy⟩) ?_ st.k8 (bF k2 st.r5 (by omega)) (dv k2 st.dr (by omega)) (cL st.kp k2 fun b e=>by omega) (fun b e=>(st.n2 b e).2.2.2.2.2) fun y hy=>(st.fb _ (by omega)).2 y hy
  unfold wI
  have hl:=congrArg List.length el
  rw [bA]at hl
  by_cases h0:z<0
  ·rw [if_pos h0,el]
  ·rw [if_neg h0,el]
   have:=st.lt (by omega)
   rw [eT (by omega)]
theorem af5(gx:Gs h q s nd)(x:ti h q tb 0)(z:Int)(hR:∀g,bY N h g→R (.slice none 0 0) g):bq PG 33 #[vp (sa tb),vi z] h R:=by
 by_cases hz:z=0
 ·subst hz
  exact Ht hR
 refine Hu h hz fun h3 w3 w5 w6 z3 k3=>?_
 refine qj (mh.callee 98 (by kernel_rfl)) fun H fn gl kH zH WF GW=>?_
 have GS:=k3.trans kH
 refine UH (gx.cI GS) (x.cI GS) (bF kH w6 _root_.id) fun g kg=>⟨.ready,none,dv kg GW _root_.id,nofun,?_⟩
 have hl:=dv kg GW _root_.id
 have ll:=iJ hl
 have kH0:=kH.trans kg
 generalize he:g.setIfInBounds (h3.size+1) _=g2
 have k2:bY (fun b=>b=h3.size+1) g g2:=he▸hN ll
 have d2:=dv k2 (dv kg WF _root_.id) (by omega)
 refine⟨⟨none,0,0⟩,(bS (bF k2 (bF kH0 w5 _root_.id) (by omega)) 0).trans rfl,d2,dh fun g5 e5=>?_⟩
 have k5:bY (fun b=>b=h3.size) g2 g5:=e5▸hN (iJ d2)
 exact hR g5 (cL (cL (GS.trans kg) k2 fun b e=>by omega) k5 fun b e=>by omega)
end
structure KS (h:Hp) (a:Sl) (ks:List (LN)):Prop where
 n:a.n=ks.length
 cap:a.n≤a.c
 TJ:∀i k,ks[i]?=some k→∃(p:Addr) (c:Sl),a.a=some p∧cell h (p.add i)=some (.slice c.a c.n c.c)∧dZ h c.a (k.map bv)∧c.n=k.length∧k.length<140737488355328
theorem Lr(a b:LN):(decide (i0 a b≤0)||decide (i0 b a≤0))=true:=by
 rw [Bt a b]
 simp only [rM,decide_eq_true_eq]
 omega
theorem Lq(a b c:LN)(h1:decide (i0 a b≤0)=true) (h2:decide (i0 b c≤0)=true):decide (i0 a c≤0)=true:=by
 rw [decide_eq_true_eq]at *
 by_cases e1:i0 a b=0
 ·rw [ug e1];exact h2
 ·by_cases e2:i0 b c=0
  ·rw [←ug e2];exact h1
  ·have:=qx (a:=a) (b:=b) (c:=c) (by omega) (by omega)
   omega
section
variable {h h' h0 h1 h2 g:Hp} {R:RP} {a c:Sl} {ob:Option Nat} {l:List Nm} {ks Q0:List (LN)}
theorem qP {p:Addr}{v:Value}(k:bY N h h')(e:cell h p=some v):cell h' p=some v:=by
 have hb:p.block<h.size:=Nat.lt_of_not_le fun uc=>by
  unfold cell at e
  rw [jh uc]at e
  cases e
 unfold cell at e ⊢
 rw [k.2 _ hb _root_.id]
 exact e
theorem KS.cI(x:KS h a ks)(k:bY N h h'):KS h' a ks :=
 ⟨x.n,x.cap,fun i y hy=>by
  obtain⟨p,c,e1,e2,e3,e4,e5⟩:=x.TJ i y hy
  exact⟨p,c,e1,qP k e2,fC k e3,e4,e5⟩⟩
theorem BL.KA(x:BL h0 h a ob l)(hl:∀y∈l,y.key.length<140737488355328):KS h a (l.map (·.key)):=by
 refine⟨by rw [bA];exact x.len,?_,fun i k hk=>?_⟩
 ·cases ob with
  |none=>have:=x.gl.sl.nil rfl;omega
  |some b=>exact(x.gl.sl.row b rfl).2.1
 ·rw [bD,jd]at hk
  obtain⟨y,hy,rfl⟩:=hk
  obtain⟨b,hb,ha,hc⟩:=x.gl.at (o:=i) (v:=bsV y) (by rw [bD,hy];rfl)
  have hm:=bx hy
  exact⟨ad b,⟨some (ad y.c),y.key.length,y.key.length⟩,ha,hc,lq (x.row y hm).1,rfl,hl y hm⟩
theorem KS.take(x:KS h a ks){m:Nat}(hm:m≤ks.length):KS h ⟨if a.c=(0:Int).toNat then a.a else Option.map (fun x=>x.add ((0:Int).toNat*1)) a.a,m,a.c-(0:Int).toNat⟩ (ks.take m):=by
 have hn:=x.n
 have hc:=x.cap
 refine⟨by rw [dm];show m=_;omega,by show m≤a.c-0;omega,fun i k hk=>?_⟩
 have him:i<m:=by
  have:=(bp.1 hk).1
  rw [dm]at this
  omega
 rw [f9 him]at hk
 obtain⟨p,c,e1,e2,e3,e4,e5⟩:=x.TJ i k hk
 refine⟨p.add 0,c,?_,by rw [qJ,fo];exact e2,e3,e4,e5⟩
 show (if a.c=0 then a.a else Option.map (fun x=>x.add (0*1)) a.a)=_
 have h0:a.c≠0:=by omega
 rw [if_neg h0,e1]
 rfl
theorem KS.drop(x:KS h a ks){m:Nat}(hm:m≤ks.length):KS h ⟨if a.c=m then a.a else Option.map (fun x=>x.add (m*1)) a.a,a.n-m,a.c-m⟩ (ks.drop m):=by
 have hn:=x.n
 have hc:=x.cap
 refine⟨by rw [fu];show a.n-m=_;omega,by show a.n-m≤a.c-m;omega,fun i k hk=>?_⟩
 rw [fi]at hk
 have fE:=(bp.1 hk).1
 obtain⟨p,c,e1,e2,e3,e4,e5⟩:=x.TJ _ k hk
 refine⟨p.add m,c,?_,by rw [qJ];exact e2,e3,e4,e5⟩
 show (if a.c=m then a.a else Option.map (fun x=>x.add (m*1)) a.a)=_
 have h0:a.c≠m:=by omega
 rw [if_neg h0,e1,cQ]
 rfl
theorem agb {k k':LN}(ra:dZ h a.a (k.map bv)) (na:a.n=k.length) (hl:k.length<140737488355328) (rc:dZ h c.a (k'.map bv)) (nc:c.n=k'.length) (hR:R (vi (i0 k k')) h):bq PG 62 #[.slice a.a a.n a.c,.slice c.a c.n c.c] h R :=
 RW ra rc na nc (by omega) hR
theorem JR(x:KS h a ks)(y:KS h c Q0)(o0:ks.length<4611686018427387904)(hR:R (vb (decide (ks=Q0))) h):bq PG 25 #[.slice a.a a.n a.c,.slice c.a c.n c.c] h R:=by
 have xn:=x.n
 have yn:=y.n
 refine acp ?_
 unfold aom
 by_cases hl:ks.length=Q0.length
 ·refine cj (bne_eq_false_iff_eq.2 (by rw [xn,yn,hl])) ?_
  refine O4 (s0:=a) (s1:=c) (fun p s0 s1 s5 h'=>∃i:Nat,i≤ks.length∧p=ks.length-i∧a=s0∧c=s1∧s5=(i:Int)∧h=h'∧∀j,j<i→ks[j]?=Q0[j]?) ks.length ⟨0,cP _,rfl,rfl,rfl,rfl,rfl,nofun⟩ ?_
  rintro p s0 s1 s5 g0 h' ⟨i,hi,rfl,rfl,rfl,rfl,rfl,hs⟩
  unfold Xy
  refine ca (fun fE=>?_) fun o5=>?_
  ·have iZ:i<ks.length:=by omega
   have e1:ks[i]?=some (ks[i]'iZ):=br iZ
   have e2:Q0[i]?=some (Q0[i]'(by omega)):=br (by omega)
   generalize ks[i]'iZ=k at e1
   generalize Q0[i]'(by omega)=k' at e2
   obtain⟨p,c1,ha,hc,r1,n1,l1⟩:=x.TJ i k e1
   obtain⟨p',c2,AK,tG,r2,n2,l2⟩:=y.TJ i k' e2
   refine⟨by omega,cW ha ⟨c1,by rw [bu,cQ];exact hc,by omega,cW AK ⟨c2,by rw [bu,cQ];exact tG,_,agb r1 n1 l1 r2 n2 ⟨rfl,rfl⟩,?_⟩⟩⟩
   by_cases e:k=k'
   ·subst e
    refine cj (by rw [vx];rfl) ⟨ks.length-(i+1),by omega,i+1,iZ,rfl,rfl,rfl,by rw [bU (by omega) (by omega)];rfl,rfl,fun j hj=>?_⟩
    by_cases HY:j=i
    ·rw [HY,e1,e2]
    ·exact hs j (by omega)
   ·refine cr (bne_iff_ne.2 fun h=>e (ug h)) ?_
    rw [decide_eq_false (fun h=>e (by rw [h,e2]at e1;exact(bt e1).symm))]at hR
    exact hR
  ·obtain rfl:i=ks.length:=by omega
   have:ks=Q0:=cG fun j=>by
    by_cases hj:j<ks.length
    ·exact hs j hj
    ·rw [bV (by omega),bV (by omega)]
   rw [decide_eq_true this]at hR
   exact hR
 ·refine cr (bne_iff_ne.2 (by rw [xn,yn];omega)) ?_
  rw [decide_eq_false (fun h=>hl (by rw [h]))]at hR
  exact hR
theorem AQ {a:Sl}{l:LN}(ha:dZ h a.a (l.map bv)) (na:a.n=l.length) (hn:l.length<140737488355328)
  (hR:∀c h',eM h' c (l.map bv)→h.size≤c→bY N h h'→R (.slice (sa c) l.length l.length) h'):bq PG 106 #[.slice a.a a.n a.c] h R:=by
 refine YH ?_
 unfold afw
 rw [na]
 refine⟨by omega,by omega,by omega,dh fun h1 e1=>?_⟩
 rw [bu]at e1 ⊢
 have k1:bY N h h1:=e1▸cF _ _ _
 have A2:eM h1 h.size (List.replicate l.length (bv 0)):=by
  have e2:=e1
  rw [o6]at e2
  exact e2▸du h (List.replicate l.length (bv 0)).toArray 5
 have YT:nb h=ad h.size:=rfl
 rw [YT]
 refine RT (o:=0) (l:=l) A2 (fC k1 ha) rfl (bH _) (by rw [fq];omega) (fun _=>rfl) fun h2 mi k2=>?_
 have e:B1 (List.replicate l.length (bv 0)) 0 (l.map bv)=l.map bv:=by unfold B1;simp
 rw [e]at mi
 exact hR _ h2 mi (bH _) ⟨bP k1.1 k2.1,fun j hj _=>(k2.2 j (bZ hj k1.1) (by omega)).trans (k1.2 j hj _root_.id)⟩
theorem RV(x:KS h a ks)(hl:ks.length<2)(hR:∀c h',KS h' c ks→bY N h h'→R (.slice c.a c.n c.c) h'):bq PG 66 #[.slice a.a a.n a.c] h R:=by
 have xn:=x.n
 refine abZ ?_
 unfold an1
 refine⟨by omega,by omega,by omega,dh fun h1 e1=>?_⟩
 have k1:bY N h h1:=e1▸cF _ _ _
 rw [show nb h=ad h.size from rfl]
 match ks,hl,x with
 | [],_,x =>
  obtain⟨aa,an,ac⟩:=a
  have xn:an=0:=x.n
  subst xn
  clear e1
  refine Fv (s0:=⟨aa,0,ac⟩) (s3:=⟨some (ad h.size),_,_⟩) (fun p s0 s3 s4 h'=>s0.n=0∧s3=⟨some (ad h.size),0,0⟩∧s4=0∧h1=h') 0 ⟨rfl,rfl,rfl,rfl⟩ ?_
  rintro p s0 s3 s4 g0 h' ⟨hn,rfl,rfl,rfl⟩
  unfold Mc
  refine cj (by rw [hn];rfl) (hR ⟨some (ad h.size),0,0⟩ h1 ⟨rfl,bH _,nofun⟩ k1)
 | [k],_,x =>
  obtain⟨aa,an,ac⟩:=a
  have xn:an=1:=x.n
  subst xn
  have w1:eM h1 h.size [.slice none 0 0]:=by
   rw [o6]at e1
   have e2:h1=h.push (.cells (List.replicate 1 (Value.slice none 0 0)).toArray 39):=e1
   rw [e2]
   exact du h (List.replicate 1 (Value.slice none 0 0)).toArray 39
  clear e1
  obtain⟨p,c1,ha,hc,r1,n1,l1⟩:=x.TJ 0 k rfl
  refine Fv (s0:=⟨aa,1,ac⟩) (s3:=⟨some (ad h.size),_,_⟩) (fun p s0 s3 s4 h'=>(⟨aa,1,ac⟩:Sl)=s0∧s3=⟨some (ad h.size),1,1⟩∧((p=1∧s4=0∧h1=h')∨(p=0∧s4=1∧KS h' ⟨some (ad h.size),1,1⟩ [k]∧bY N h h'))) 1 ⟨rfl,rfl,.inl ⟨rfl,rfl,rfl⟩⟩ ?_
  rintro m s0 s3 s4 g0 h' ⟨rfl,rfl,⟨rfl,rfl,rfl⟩|⟨rfl,rfl,ksx,kk⟩⟩
  ·unfold Mc
   refine cr rfl ⟨⟨by omega,by show (0:Int)<((1:Nat):Int);omega⟩,cW ha ⟨c1,qP k1 hc,?_⟩⟩
   refine AQ (fC k1 r1) n1 l1 fun cb h2 mi GZ k2=>⟨⟨_,_,_⟩,rfl,⟨by omega,by show (0:Int)<((1:Nat):Int);omega⟩,bw ?_⟩
   refine eu (bF k2 w1 _root_.id) (i:=0) (cm _ _) (by simp) fun h3 w3 k3=>⟨0,by omega,rfl,rfl,.inr ⟨rfl,rfl,?_,cL (k1.trans k2) k3 fun b e=>by omega⟩⟩
   refine⟨rfl,bH _,fun i y hy=>?_⟩
   have:i=0∧k=y:=by
    cases i with
    |zero=>exact⟨rfl,bt hy⟩
    |succ i=>cases hy
   obtain⟨rfl,rfl⟩:=this
   have hk2:=k1.1
   have fE:=eE w1
   exact⟨ad h.size,⟨some (ad cb),k.length,k.length⟩,rfl,ia w3 rfl,lq (bF k3 mi (by omega)),rfl,l1⟩
  ·unfold Mc
   exact cj rfl (hR _ _ ksx kk)
abbrev oD(a b:LN):Bool:=decide (i0 a b≤0)
def n8(c:Sl):Value:=.slice c.a c.n c.c
structure Zv (h0 g:Hp) (a:Sl) (ob:Option Nat) (ps:List (Sl × LN)):Prop where
 gl:GL 1 h0 g a ob (ps.map fun p=>n8 p.1)
 rd:∀p∈ps,dZ h0 p.1.a (p.2.map bv)∧p.1.n=p.2.length∧p.2.length<140737488355328
theorem Zv.KA {h0 g:Hp}{a:Sl}{ob:Option Nat}{ps:List (Sl × LN)} (x:Zv h0 g a ob ps) (k:bY N h0 g):KS g a (ps.map (·.2)):=by
 have hl:=x.gl.len
 rw [bA]at hl
 refine⟨by rw [bA];omega,?_,fun i y hy=>?_⟩
 ·cases ob with
  |none=>have:=x.gl.sl.nil rfl;omega
  |some b=>exact(x.gl.sl.row b rfl).2.1
 ·rw [bD,jd]at hy
  obtain⟨p,hp,rfl⟩:=hy
  obtain⟨b,hb,ha,hc⟩:=x.gl.at (o:=i) (v:=n8 p.1) (by rw [bD,hp];rfl)
  have h1:=x.rd p (bx hp)
  exact⟨ad b,p.1,ha,hc,fC k h1.1,h1.2.1,h1.2.2⟩
theorem sR (l:List (LN)):List.merge [] l oD=l:=by simp
theorem wM (l:List (LN)):List.merge l [] oD=l:=by simp
theorem wg {α:Type}{l:List α}{i:Nat}{x:α}(h:l[i]?=some x):l.drop i=x::l.drop (i+1):=by
 obtain⟨hl,rfl⟩:=bp.1 h
 exact d8 hl
def P0(h3:Hp)(k1 k2:List (LN)) (c1 c2:Sl) (p:Nat) (s3 s4 s5:Sl) (s6 s7:Int) (g:Hp):Prop :=
 ∃(i j:Nat) (ob:Option Nat) (ps:List (Sl × LN)),i≤k1.length∧j≤k2.length∧p=(k1.length-i)+(k2.length-j)∧c1=s3∧c2=s4∧s6=(i:Int)∧s7=(j:Int)∧Zv h3 g s5 ob ps∧ps.length=i+j∧bY N h3 g∧List.merge k1 k2 oD=ps.map (·.2)++List.merge (k1.drop i) (k2.drop j) oD
theorem adN {h3 g:Hp}{ks:List (LN)} {cc s5:Sl} {ob:Option Nat} {ps:List (Sl × LN)} {t:Nat} {K:OA→Nat→Nat→Hp→Prop} {k:LN} {p:Addr} {c:Sl} (y:KS h3 cc ks) (hk:ks[t]?=some k) (ha:cc.a=some p) (hc:cell g (p.add t)=some (.slice c.a c.n c.c))
  (ol:Zv h3 g s5 ob ps) (kg:bY N h3 g) (hl:ps.length<300000000)
  (hK:∀a' c' g' jK,Zv h3 g' ⟨a',s5.n+1,c'⟩ jK (ps++[(c,k)])→bY N h3 g'→K a' (s5.n+1) c' g') :
  gi (g.push (.cells #[.slice c.a c.n c.c] 39)) fun h5=>im 39 1 24 #[.slice none 0 0] s5.a s5.n s5.c (some (nb g)) 1 h5 K:=by
 obtain⟨p',c',AK,tG,r1',nn',ll'⟩:=y.TJ t k hk
 have ec:c=c':=by
  rw [ha]at AK
  obtain rfl:=bt AK
  have:=qP kg tG
  rw [hc]at this
  have:=bt this
  injection this with q1 q2 q3
  cases c;cases c'
  simp only at q1 q2 q3
  subst q1 q2 q3
  rfl
 subst ec
 have sn:s5.n=ps.length:=by have:=ol.gl.len;rw [bA]at this;omega
 refine ol.gl.add (arr:=#[n8 c]) (e:=39) (t:=39) kg.1 rfl rfl (fun v hv=>by simp at hv;rcases hv with rfl;rfl) (by omega) (by omega) fun a' c' g' jK gl' k' nw=>hK a' c' g' jK ⟨by rw [cx];exact gl',fun p hp=>?_⟩ (cL kg k' fun b e=>ol.gl.new b e)
 rcases bI.1 hp with hp|hp
 ·exact ol.rd p hp
 ·rw [bM.1 hp];exact⟨r1',nn',ll'⟩
theorem Z0:∀(n:Nat) {h:Hp} {a:Sl} {ks:List (LN)} {R:RP},ks.length≤n→ks.length<100000000→KS h a ks→(∀c h' Q0,KS h' c Q0→Q0.Perm ks→Q0.Pairwise (fun x y=>oD x y=true)→bY N h h'→R (.slice c.a c.n c.c) h')→bq PG 27 #[.slice a.a a.n a.c] h R:=by
 intro n
 induction n with
 |zero =>
  intro h a ks R hl hs x hR
  have e:ks=[]:=dA.1 (by omega)
  have xn:=x.n
  refine RD ?_
  unfold ais
  refine cr (decide_eq_true (by omega)) (RV x (by omega) fun c h' y k=>⟨c,rfl,hR c h' ks y (fT _) (by rw [e];exact List.Pairwise.nil) k⟩)
 |succ n ih =>
  intro h a ks R hl hs x hR
  have xn:=x.n
  have xc:=x.cap
  refine RD ?_
  unfold ais
  by_cases h2:ks.length<2
  ·refine cr (decide_eq_true (by omega)) (RV x h2 fun c h' y k=>⟨c,rfl,hR c h' ks y (fT _) ?_ k⟩)
   match ks,h2 with
   | [],_=>exact List.Pairwise.nil
   | [k],_=>exact List.pairwise_singleton _ _
  refine cj (decide_eq_false (by omega)) ?_
  have em:wrap .i64 (Int.tdiv (a.n:Int) (2:Int))=((ks.length / 2:Nat):Int):=by
   rw [xn,show ((2:Int))=((2:Nat):Int)from rfl,←tC]
   exact bU (by omega) (by omega)
  rw [em,bu]
  generalize hm:ks.length / 2=m at *
  have hm1:1≤m∧m<ks.length:=by omega
  refine⟨by omega,by omega,by omega,?_⟩
  have x1:=x.take (m:=m) (by omega)
  refine ih (a:=⟨if a.c=(0:Int).toNat then a.a else Option.map (fun x=>x.add ((0:Int).toNat*1)) a.a,m,a.c-(0:Int).toNat⟩) (ks:=ks.take m) (by rw [dm];omega) (by rw [dm];omega) x1 fun c1 h2 k1 y1 p1 s1 kk1=>⟨c1,rfl,by omega,by omega,?_⟩
  have x2:=(x.cI kk1).drop (m:=m) (by omega)
  refine ih (a:=⟨if a.c=m then a.a else Option.map (fun x=>x.add (m*1)) a.a,a.n-m,a.c-m⟩) (ks:=ks.drop m) (by rw [fu];omega) (by rw [fu];omega) x2 fun c2 h3 k2 y2 p2 s2 Kk=>⟨c2,rfl,by omega,by omega,by omega,dh fun h4 e4=>?_⟩
  have y1:=y1.cI Kk
  have kh3:=kk1.trans Kk
  have l1:=p1.length_eq
  have l2:=p2.length_eq
  rw [dm]at l1
  rw [fu]at l2
  have n1:=y1.n
  have n2:=y2.n
  have k4:bY N h3 h4:=e4▸cF _ _ _
  rw [show nb h3=ad h3.size from rfl]
  have w4:eM h4 h3.size (List.replicate ks.length (.slice none 0 0)):=by
   rw [o6,bu,xn]at e4
   rw [e4]
   exact du h3 (List.replicate ks.length (Value.slice none 0 0)).toArray 39
  clear e4
  have amC:(List.merge k1 k2 oD).Perm ks:=by
   have:=(p1.append p2)
   rw [eZ]at this
   exact(List.merge_perm_append (le:=oD)).trans this
  have amv:(List.merge k1 k2 oD).Pairwise (fun x y=>oD x y=true):=List.pairwise_merge Lq Lr _ _ s1 s2
  have en:(a.n:Int).toNat=ks.length:=by rw [bu,xn]
  rw [en]
  have g0:GL 1 h3 h4 ⟨some (ad h3.size),0,ks.length⟩ (some h3.size) (([]:List (Sl × LN)).map fun p=>n8 p.1) :=
   ⟨⟨rfl,nofun,fun b e=>by obtain rfl:=bt e;exact⟨rfl,cP _,List.replicate ks.length (.slice none 0 0),w4,by simp⟩⟩,fun b e=>by obtain rfl:=bt e;exact bH _⟩
  refine OZ (s3:=c1) (s4:=c2) (s5:=⟨some (ad h3.size),(0:Int).toNat,ks.length⟩) (P0 h3 k1 k2 c1 c2) (k1.length+k2.length)
   ⟨0,0,some h3.size,[],cP _,cP _,rfl,rfl,rfl,rfl,rfl,⟨g0,nofun⟩,rfl,k4,rfl⟩ ?_
  rintro p s3 s4 s5 s6 s7 gg g ⟨i,j,ob,ps,hi,hj,rfl,rfl,rfl,rfl,rfl,ol,pl,kg,em⟩
  have yg1:=y1.cI kg
  have yg2:=y2.cI kg
  have ada:∀k,k1[i]?=some k→List.merge (k1.drop i) (k2.drop j) oD=k::List.merge (k1.drop (i+1)) (k2.drop j) oD→Fx (P0 h3 k1 k2 c1 c2) (k1.length-i+(k2.length-j)) c1 c2 s5 (i:Nat) (j:Nat) true g R:=fun k e1 hmm=>by
   have iZ:=(bp.1 e1).1
   unfold Fx
   obtain⟨p,c,ha,hc,r1,nn,ll⟩:=yg1.TJ i k e1
   refine cr rfl ⟨by omega,cW ha ⟨c,by rw [bu,cQ];exact hc,?_⟩⟩
   refine adN y1 e1 ha hc ol kg (by omega) fun a' c' g' jK ol' kg'=>⟨k1.length-(i+1)+(k2.length-j),by omega,i+1,j,jK,ps++[(c,k)],iZ,hj,rfl,rfl,rfl,by rw [bU (by omega) (by omega)];rfl,rfl,ol',by rw [bG,pl];show i+j+1=_;omega,kg',?_⟩
   rw [em,hmm,cx,ce];rfl
  have ac9:∀k,k2[j]?=some k→List.merge (k1.drop i) (k2.drop j) oD=k::List.merge (k1.drop i) (k2.drop (j+1)) oD→Fx (P0 h3 k1 k2 c1 c2) (k1.length-i+(k2.length-j)) c1 c2 s5 (i:Nat) (j:Nat) false g R:=fun k e1 hmm=>by
   have iZ:=(bp.1 e1).1
   unfold Fx
   obtain⟨p,c,ha,hc,r1,nn,ll⟩:=yg2.TJ j k e1
   refine cj rfl ⟨by omega,cW ha ⟨c,by rw [bu,cQ];exact hc,?_⟩⟩
   refine adN y2 e1 ha hc ol kg (by omega) fun a' c' g' jK ol' kg'=>⟨k1.length-i+(k2.length-(j+1)),by omega,i,j+1,jK,ps++[(c,k)],hi,iZ,rfl,rfl,rfl,rfl,by rw [bU (by omega) (by omega)];rfl,ol',by rw [bG,pl];show i+j+1=_;omega,kg',?_⟩
   rw [em,hmm,cx,ce];rfl
  unfold Xo
  refine ca (fun fE=>?_) fun o5=>?_
  ·have iZ:i<k1.length:=by omega
   have e1:k1[i]?=some (k1[i]'iZ):=br iZ
   generalize k1[i]'iZ=x1 at e1
   have d1:=wg e1
   unfold RC
   refine cr rfl ?_
   by_cases nK:j<k2.length
   ·have e2:k2[j]?=some (k2[j]'nK):=br nK
    generalize k2[j]'nK=x2 at e2
    have d2:=wg e2
    refine cj (beq_eq_false_iff_ne.2 (by omega)) (cr (decide_eq_true (by omega)) ?_)
    obtain⟨p,c,ha,hc,r1,nn,ll⟩:=yg1.TJ i x1 e1
    obtain⟨p',c',AK,tG,r1',nn',ll'⟩:=yg2.TJ j x2 e2
    refine⟨by omega,cW ha ⟨c,by rw [bu,cQ];exact hc,by omega,cW AK ⟨c',by rw [bu,cQ];exact tG,_,agb r1 nn ll r1' nn' ⟨rfl,rfl⟩,?_⟩⟩⟩
    by_cases uc:i0 x1 x2≤0
    ·rw [decide_eq_true uc]
     refine ada x1 e1 ?_
     rw [d1,d2,List.cons_merge_cons,if_pos (decide_eq_true uc),←d2]
    ·rw [decide_eq_false uc]
     refine ac9 x2 e2 ?_
     rw [d1,d2,List.cons_merge_cons,if_neg (by rw [decide_eq_true_eq];exact uc),←d1]
   ·refine cr (beq_iff_eq.2 (by omega)) (ada x1 e1 ?_)
    rw [gH (by omega:k2.length≤j),wM,wM,d1]
  ·have eil:i=k1.length:=by omega
   unfold RC
   refine ca (fun LI=>?_) fun am6=>?_
   ·have nK:j<k2.length:=by omega
    have e2:k2[j]?=some (k2[j]'nK):=br nK
    generalize k2[j]'nK=x2 at e2
    have d2:=wg e2
    refine cj (beq_eq_false_iff_ne.2 (by omega)) (cj (decide_eq_false (by omega)) (ac9 x2 e2 ?_))
    rw [gH (by omega:k1.length≤i),sR,sR,d2]
   ·rw [gH (by omega:k1.length≤i),gH (by omega:k2.length≤j),sR,eV]at em
    refine hR s5 g (ps.map (·.2)) (ol.KA kg) (em▸amC) (em▸amv) (kh3.trans kg)
end
section
end
section
end
section
end
section
end
section
end
section
end
section
end
section
end
section
variable {nd:List di} {T:TD} {dN:LN}
theorem yT.Uj(c:yT nd T){x:iM}(hx:x∈T.dc):∃n,MS nd x n∧(n=0∨n∈T.dN):=by
 rw [←T.vA]at hx
 obtain⟨A,hA,hx⟩:=mf.1 hx
 have ok:=c.arr A hA
 obtain⟨i,d,hd,hxd⟩:=iC hx
 obtain⟨p,u,rfl⟩:=oL hxd
 have hs:=(ok.s i _ hd).1
 rw [ou]at hs
 refine⟨_,hs.2.1,?_⟩
 cases u with
 |nil=>exact .inl rfl
 |cons y u =>
  right
  exact TD.pq (ok.e y (dY.2 ⟨_,bx hd,by simp⟩))
theorem yT.cl(c:yT nd T){i y:Nat}{m:di}(hi:i∈T.dN)(hm:nd[i]?=some m)(hy:y∈m.cY)(h0:y≠0):y∈T.dN∨∃e∈T.dc,y=e.r:=by
 have aoT:∀A∈T.lJ,i=A.id→y∈T.dN:=fun A hA e=>by
  have ok:=c.arr A hA
  rw [e,ok.n]at hm
  obtain rfl:=bt hm
  obtain⟨d,hd,rfl⟩:=cy.1 hy
  cases d with
  |nil=>exact absurd rfl h0
  |cons x d=>exact TD.pq (ok.e x (dY.2 ⟨_,hd,bQ ..⟩))
 unfold TD.dN at hi
 rcases bI.1 hi with hi|hi
 ·unfold TD.nV at hi
  rcases ck.1 hi with rfl|hi
  ·rw [c.g.tn]at hm
   obtain rfl:=bt hm
   have hy:y=T.nw.id∨y=T.CU:=by simpa using hy
   rcases hy with rfl|rfl
   ·exact .inl T.nU
   ·cases ho:T.od with
    |none=>rw [TD.uV ho]at h0;exact absurd rfl h0
    |some o=>rw [TD.qV ho];exact .inl (TD.rG ho)
  ·rcases ck.1 hi with rfl|hi
   ·exact .inl (aoT T.nw (bQ ..) rfl)
   ·cases ho:T.od with
    |none=>rw [ho]at hi;cases hi
    |some o =>
     rw [ho]at hi
     have:i=o.id:=by simpa using hi
     exact .inl (aoT o (by unfold TD.lJ;rw [ho];simp) this)
 ·obtain⟨x,hx,hix⟩:=iR.1 hi
  obtain⟨n,ok,hn⟩:=c.Uj hx
  rcases hix with rfl|rfl
  ·rw [ok.1]at hm
   obtain rfl:=bt hm
   have hy:y=n∨y=x.k∨y=x.r:=by simpa [iM.node]using hy
   rcases hy with rfl|rfl|rfl
   ·exact .inl (hn.resolve_left h0)
   ·exact .inl (TD.EZ hx)
   ·exact .inr ⟨x,hx,rfl⟩
  ·rw [ok.2.1]at hm
   obtain rfl:=bt hm
   cases hy
end
section
end
section
end
section
end
section
end
section
end
section
end
section
end
section
variable {h h2:Hp} {k:Nat}
theorem I3 {a b:List (LN)} (p:a.Perm b) (hn:a.Nodup) (ha:a.Pairwise HN) (hb:b.Pairwise fun x y=>oD x y=true):a=b:=by
 have fV:b.Pairwise HN:=by
  refine(pP (p.nodup_iff.1 hn) hb).imp fun {x y} h=>?_
  have h2:i0 x y≤0:=of_decide_eq_true h.2
  have h3:i0 x y≠0:=fun e=>h.1 (ug e)
  unfold HN
  omega
 exact BW p (fun x _ y _ h1 h2=>by
  have h1:i0 x y<0:=h1
  have h2:i0 y x<0:=h2
  rw [Bt]at h2
  omega) ha fV
theorem KH {n:Nat}:∀(l:List HK) (mP:Nat) (vG:List (LN)),(jZ n l mP vG).2.length≤vG.length+l.length
 | [],_,vG=>by simp [jZ]
 | (h,k)::l,mP,vG=>by
  rw [jZ]
  split
  ·simp
  ·have:=KH (n:=n) l h (vG++[k])
   simp at this ⊢
   omega
theorem Hv {n:Nat}:∀(l:List HK) (mP:Nat) (vG:List (LN)),∀x∈(jZ n l mP vG).2,x∈vG∨x∈l.map (·.2)
 | [],_,vG,x,hx=>.inl (by simpa [jZ]using hx)
 | (h,k)::l,mP,vG,x,hx=>by
  rw [jZ]at hx
  split at hx
  ·exact .inl hx
  ·rcases Hv (n:=n) l h (vG++[k]) x hx with h1|h1
   ·rcases bI.1 h1 with h2|h2
    ·exact .inl h2
    ·right;rw [bM.1 h2];exact bQ ..
   ·exact .inr (bJ _ h1)
end
def an9(d:Sl)(h:Hp)(R:RP):Prop:=bX (Option.isNone d.a) (R (.slice none 0 0:Value) h) (bq PG 106 #[.slice d.a d.n d.c] h fun r e=>∃b:Sl,r=.slice b.a b.n b.c∧R (.slice b.a b.n b.c:Value) e)
theorem ab4 {a0:Sl}{h:Hp}{R:RP}(hF:an9 a0 h R):bq PG 59 #[vl a0] h R:=iY (lv:=kw) Tryz.func59 hF
section
variable {h g:Hp} {k:Nat} {R:RP} {key:LN}
theorem Qf {a:Sl}(hn:a.a=none→a.n=0)(ra:dZ h a.a (key.map bv)) (na:a.n=key.length) (hl:key.length<140737488355328) (hR:∀(c:Sl) (g:Hp),c.n=key.length→dZ g c.a (key.map bv)→(∀p:Addr,c.a=some p→h.size≤p.block∧p.block<g.size)→bY N h g→R (.slice c.a c.n c.c) g):bq PG 59 #[.slice a.a a.n a.c] h R:=by
 refine ab4 ?_
 unfold an9
 cases e:a.a with
 |none =>
  have h0:=hn e
  refine cr rfl (hR ⟨none,0,0⟩ h (by show 0=key.length;omega) (by have:key=[]:=dA.1 (by omega);rw [this];rfl) nofun (bY.refl _ _))
 |some p =>
  rw [e]at ra
  refine cj rfl ?_
  refine AQ (a:=⟨some p,a.n,a.c⟩) ra na hl fun c g rc hc k=>⟨⟨some (ad c),key.length,key.length⟩,rfl,hR ⟨some (ad c),key.length,key.length⟩ g rfl (lq rc) (fun q hq=>?_) k⟩
  obtain rfl:=bt hq
  exact⟨hc,eE rc⟩
end
section
end
section
end
section
end
section
end
section
end
section
variable {h h1:Hp} {n:Nat} {R:RP}
theorem rD {a:Int}{n:Nat}(hn:0<n)(Ud:n<100000000)(ha:-9223372036854775808≤a∧a<9223372036854775808){R:RP}(hR:R (vi (a%(n:Int))) h):bq PG 21 #[vi a,vi (n:Int)] h R:=by
 refine acr ?_
 unfold aon
 have m1:=jk a (b:=(n:Int)) (by omega)
 have m2:=gI a (b:=(n:Int)) (by omega)
 refine⟨by omega,ca (fun aAe=>?_) fun wW=>?_⟩
 ·have e:Int.tmod a (n:Int)+(n:Int)=a%(n:Int):=by
   have h1:=Int.tmod_eq_emod (a:=a) (b:=(n:Int))
   split at h1
   ·omega
   ·omega
  rw [e,bU (by omega) (by omega)]
  exact hR
 ·have e:Int.tmod a (n:Int)=a%(n:Int):=by
   have h1:=Int.tmod_eq_emod (a:=a) (b:=(n:Int))
   have h3:=gI a (b:=(n:Int)) (by omega)
   split at h1
   ·omega
   ·omega
  rw [e]
  exact hR
end
section
end
section
end
section
variable {h h':Hp} {R:RP}
theorem phn {i:Int}(jz:¬(128≤i∧i≤1048576)→R (vt #[vp none,vi 30]) h)
  (mD:∀h' q',128≤i∧i≤1048576→Gs h' q' (RS.new i.toNat) [⟨0,[],[]⟩]→bY N h h'→(∀b,q'.bR b≠.out→h.size≤b)→R (vt #[vp (sa q'.hb),vi 0]) h'):bq PG 57 #[vi i] h R :=
 abh jz fun h' hb bR G hn rp fr k=>mD h' ⟨hb,bR,G,[]⟩ hn ⟨⟨rp,RS.aaY (by omega) (by omega)⟩,⟨rfl,fun id iA=>by unfold RS.da RS.new at iA;simp at iA⟩⟩ k fr
end
section
end
section
end
section
end
section
end
section
end
section
end
section
end
section
end
structure Kf (h:Hp) (a:Sl) (key:LN):Prop where
 rd:dZ h a.a (key.map bv)
 n:a.n=key.length
 b8:fK key
 nil:a.a=none→a.n=0
 len:key.length≤140737488351232
 src:∀p,a.a=some p→key≠[]→p.block<h.size
section
variable {h h1 h' h2:Hp} {k n:Nat} {key:LN}
theorem Kf.cI {a:Sl}(x:Kf h a key)(k:bY N h h'):Kf h' a key:=⟨fC k x.rd,x.n,x.b8,x.nil,x.len,fun p h1 h2=>bZ (x.src p h1 h2) k.1⟩
end
end Go.Ev
namespace Go.Proofs.YtjigacanjlppiaaGreatDoor
open Go.ChangeShapes Go.WideShapes Go.ChangeAt Go.RowKit
open Go.Ev (Kf Da dZ uv bv Sq Sl Nt BF fK)
def I64(x:Int):Prop:=-9223372036854775808≤x∧x<9223372036854775808
abbrev iv(x:Int):Value:=.int .i64 x
theorem own:ownKnob Tryz.prog.godebug=none:=by kernel_rfl
theorem c3:Tryz.prog.cellsOf 3=1:=by kernel_rfl
theorem c5:Tryz.prog.cellsOf 5=1:=by kernel_rfl
theorem c27:Tryz.prog.cellsOf 27=1:=by kernel_rfl
theorem c39:Tryz.prog.cellsOf 39=1:=by kernel_rfl
theorem b5:Tryz.prog.bytesOf 5=1:=by kernel_rfl
theorem asw:Kids Tryz.prog (· < Tryz.prog.types.size):=kids_rows (by kernel_rfl) (by kernel_rfl)
theorem KC:∀t e,t<Tryz.prog.types.size→Tryz.prog.underlying t=some (.slice e)→0<Tryz.prog.cellsOf e:=by
 have h:(List.range Tryz.prog.types.size).all (fun t=>match Tryz.prog.underlying t with|some (.slice e)=>decide (0<Tryz.prog.cellsOf e)|_=>true)=true:=by kernel_rfl
 intro t e ht hu
 have:=mg.1 h t (jQ.2 ht)
 rw [hu]at this
 exact of_decide_eq_true this
section
variable {H:Type} {enc:TypeId × Value→H} {W:World}
theorem xj {P:Program}{e:TypeId}:∀ {ds:List (DataW H)} {d:DataW H},d∈ds→∀n∈d.weights P e,n∈DataW.weightsAll P e ds
 |d0::ds,d,hd,n,hn=>by
  rw [DataW.weightsAll,bI]
  rcases ck.1 hd with rfl|hd
  ·exact .inl hn
  ·exact .inr (xj hd n hn)
theorem Om {n:Int}(h:(Lit.int .i64 n).wf=true):I64 n:=by
 have:=bounds_i64 h
 exact⟨this.1,by omega⟩
noncomputable abbrev tr {H:Type} (enc:TypeId × Value→H) (W:World) (n:Nat) (t:TypeId) (cs:List Value):=DataW.trod enc Tryz.prog W 0 (fun _=>true) true n t cs
theorem M5 {n:Nat}{v:Value}{x:DataW H × List MemPlace}(h:tr enc W n 39 [v]=some x)(hw:∀m∈x.1.weights Tryz.prog 39,m≤reachBytes):
  ∃(d:Sl) (l:List Nat),v=Sq d∧dZ W.heap d.a (l.map bv)∧d.n=l.length∧(∀c∈l,c<256)∧l.length≤140737488351232∧∀p,d.a=some p→l≠[]→p.block<W.heap.size:=by
 rcases open_ints Tryz.underlying39 Tryz.underlying5 c5 h with⟨Km,_⟩|⟨a,len,cap,zs,Km,_,hl,_,hz,hx,kY,hwz⟩
 ·refine⟨⟨none,0,0⟩,[],?_,rfl,rfl,by simp,by decide,nofun⟩
  exact(List.cons.inj Km).1
 ·simp only [if_true]at hz
  have hw1:=hw ((len+(cap-len))*Tryz.prog.bytesOf 5) (by
   rw [hx]
   have e1:((lits (H:=H) .u8 (zs.take len)).length)=len:=by simp [lits];omega
   have e2:((lits (H:=H) .u8 (zs.drop len)).length)=cap-len:=by simp [lits];omega
   simp only [DataW.weights,Tryz.underlying39,ck]
   exact .inl (by rw [e1,e2]))
  rw [b5]at hw1
  have hr:reachBytes=140737488351232:=rfl
  have wz:∀i,i<zs.length→0≤zs.getD i 0∧zs.getD i 0≤255:=fun i hi=>by
   rw [bB,br hi]
   exact bounds_u8 (hwz _ (nQ hi))
  have ll:((zs.take len).map Int.toNat).length=len:=by rw [bA,dm];omega
  have rd:∀i,i<len→Go.Ev.cell W.heap (a.add i)=some (bv ((zs.take len).map Int.toNat)[i]!):=fun i hi=>by
   have h1:Go.Ev.cell W.heap (a.add i)=some (.int .u8 (zs.getD i 0)):=kY i (by omega)
   have h2:=wz i (by omega)
   have e:((zs.take len).map Int.toNat)[i]! = (zs.getD i 0).toNat:=by
    rw [List.getElem!_eq_getElem?_getD,bD,gF,if_pos hi,br (by omega),bB,br (by omega)]
    rfl
   rw [h1,e]
   unfold bv
   rw [fj h2.1]
  refine⟨⟨some a,len,cap⟩,(zs.take len).map Int.toNat,?_,?_,ll.symm,?_,by omega,?_⟩
  ·simpa [Sq]using Km
  ·intro j u hj
   rw [bD]at hj
   obtain⟨z,hz1,rfl⟩:=jd.1 hj
   have nK:j<len:=by have:=(bp.1 hz1).1;rw [ll]at this;exact this
   rw [rd j nK,List.getElem!_eq_getElem?_getD,hz1]
   rfl
  ·intro c hc
   obtain⟨z,hz1,rfl⟩:=cy.1 hc
   have:=bounds_u8 (hwz z (dK hz1))
   omega
  ·intro p hp iS
   obtain rfl:=bt hp
   have h0:0<len:=Nat.pos_of_ne_zero fun e=>iS (dA.1 (ll.trans e))
   have h1:=rd 0 h0
   unfold Go.Ev.cell at h1
   have eb:(a.add 0).block=a.block:=rfl
   rw [eb]at h1
   exact Nat.lt_of_not_le fun hl=>by
    rw [jh hl]at h1
    cases h1
theorem al6 {d:Sl}{l:List Nat}(h:dZ W.heap d.a (l.map bv)) (n:d.n=l.length) (b:∀c∈l,c<256) (ln:l.length≤140737488351232) (s:∀p,d.a=some p→l≠[]→p.block<W.heap.size):Kf W.heap d l :=
 ⟨h,n,b,fun e=>by
  cases l with
  |nil=>exact n
  |cons x l =>
   rw [e]at h
   exact absurd h (by simp [dZ]),ln,s⟩
end
abbrev Wd:List (String × DataW Unit):=[("math/bits.deBruijn32tab",Rows.laid_math_bits_deBruijn32tab),("math/bits.deBruijn64tab",Rows.laid_math_bits_deBruijn64tab)]
theorem g64:Tryz.prog.globalNamed "math/bits.deBruijn64tab" = some BF:=by kernel_rfl
theorem tzT:∃t,(Tryz.prog.globals[BF]?).map (·.type)=some t∧Tryz.prog.underlying t=some (.array 64 5)∧Tryz.prog.cellsOf t=64:=⟨299,by kernel_rfl,by kernel_rfl,by kernel_rfl⟩
def toD {H:Type}(n:Nat):DataW H:=.lit (.int .u8 n)
theorem aa5:Rows.laid_math_bits_deBruijn64tab (H:=Unit)=.agg (Nt.map toD):=by kernel_rfl
theorem ahc {W:World}{m:Nat}{cs:List Value}{r:Nat}{p:List MemPlace}{enc:TypeId × Value→Unit}(h:DataW.trod enc Tryz.prog W 0 (fun _=>true) false m 5 cs=some (toD r,p)):cs=[.int .u8 (r:Int)]:=by
 obtain⟨n,a,b,_⟩:=DataW.trod_int Tryz.underlying5 h
 simp only [fP,toD,DataW.lit.injEq,Lit.int.injEq,true_and]at b
 rw [a,b.1]
theorem aaW {W:World}(h:laidMetH Tryz.prog Wd W):Go.Ev.eM W.heap BF (Nt.map fun n=>.int .u8 (n:Nat)):=by
 rw [MakeChecks.laidMetH_plain _ _ _ (by kernel_rfl)]at h
 obtain⟨ps,hL,_,hP⟩:=h
 obtain⟨g1,t1,cs1,f1,p1,q1,_,_,_,_,rest,rfl⟩:=hL
 obtain⟨g0,t0,cs0,f0,p0,q0,hg0,ht0,hv0,hd0,awv,rfl⟩:=rest
 obtain rfl:=bt (g64.symm.trans hg0)
 obtain⟨t,ht,hu,hc⟩:=tzT
 obtain rfl:=bt (ht.symm.trans ht0)
 rw [aa5]at hd0
 obtain⟨xs,m,_,hx,hl,hn,No⟩:=DataW.trod_array hu hd0
 rw [hc]at hl
 rw [c5]at No
 simp only [fP,DataW.agg.injEq]at hx
 have Km:cs0.toList=Nt.map fun n=>.int .u8 (n:Nat):=by
  refine cG fun j=>?_
  by_cases hj:j<64
  ·have hr:Nt[j]?=some (Nt[j]'(by rw [Go.Ev.DP];exact hj)):=br _
   generalize Nt[j]'(by rw [Go.Ev.DP];exact hj)=r at hr
   have T9:(xs[j]?).map (·.1)=some (toD r):=by
    rw [←bD,←hx.1,bD,hr]
    rfl
   obtain⟨x,hx1,hx2⟩:=jd.1 T9
   have h1:=No j hj
   rw [hx1]at h1
   obtain⟨d,p⟩:=x
   simp only at hx2
   subst hx2
   have h2:=ahc h1
   have h3:cs0.toList[j]?=some (.int .u8 (r:Int)):=by
    have:=congrArg (fun l:List Value=>l[0]?) h2
    simp only [gF,fi]at this
    simpa using this
   rw [h3,bD,hr];rfl
  ·rw [bV (by omega),bV (by rw [bA,Go.Ev.DP];omega)]
 have ur:MemPlace.cell BF 0∈MemPlace.row ⟨BF,0,none⟩ cs0.size:=by
  have e:cs0.size=64:=hl
  rw [e]
  exact cy.2 ⟨0,jQ.2 (by omega),rfl⟩
 obtain⟨⟨c,t',hb⟩,_⟩:=hP BF 0 (by simp [ur])
 have hv:=hv0
 unfold World.var? at hv
 rw [g64,dX,hb]at hv
 obtain rfl:=bt hv
 exact⟨t',by rw [hb,←Km]⟩
theorem YZ(os:Os)(args:Array Value):laidMetH Tryz.prog Wd ((World.doorLaid Tryz.prog 4000 os).forCall (fun _ _=>0) ⟨#[],args,[]⟩).memory:=by
 unfold Wd
 rw [MakeChecks.laidMetH_plain _ _ _ (by kernel_rfl)]
 exact laidMet_of_run' 8 (by kernel_rfl) (by kernel_rfl)
section
variable {W:World}
theorem Wf {W W':World}(hs:Go.Ev.gj W W')(hk:Go.Ev.bY Go.Ev.N W.heap W'.heap)(may:MemPlace→Prop):W.keptBut W' may:=by
 refine⟨hs.1,hs.2.2.1,fun i hi=>?_⟩
 rw [hk.2 i hi id]
 cases h:W.heap[i]? with
 |none=>rfl
 |some o =>
  cases o<;>first|exact rfl|exact⟨rfl,rfl,rfl,fun _ _=>rfl⟩|exact .inr ⟨rfl,rfl⟩
theorem U8 {W W':World}(hk:Go.Ev.bY Go.Ev.N W.heap W'.heap){p:MemPlace}(hp:p.block<W.heap.size):W.sameAt W' p:=by
 cases p with
 |cell b off =>
  show Go.Ev.cell W'.heap ⟨b,off,none⟩=Go.Ev.cell W.heap ⟨b,off,none⟩
  unfold Go.Ev.cell
  rw [hk.2 b hp id]
 |map b=>exact hk.2 b hp id
end
end Go.Proofs.YtjigacanjlppiaaGreatDoor
namespace Go.Ev
open Go.Proofs
section
variable {h h2:Hp} {nd gm:List di} {bC jl:List (Option Nat)} {hn v:Nat} {T T':TD} {dN:LN} {x:iM}
theorem PM {f:Nat→Nat}:∀ {l L:LN},l.Nodup→(∀x∈l,x∈L)→(l.map f).sum≤(L.map f).sum
 | [],_,_,_=>cP _
 |x::l,L,hn,hs=>by
  have p:=List.perm_cons_erase (hs x (bQ ..))
  have e:=(p.map f).sum_nat
  have hn:=cV.1 hn
  have ih:=PM (f:=f) (l:=l) (L:=L.erase x) hn.2 fun y hy=>(List.mem_erase_of_ne fun e:y=x=>hn.1 (by rw [←e];exact hy)).2 (hs y (bJ _ hy))
  rw [e,cU,cU,f8,f8]
  omega
theorem gx {α:Type}{f:α→Nat}{b:Nat}:∀ {l:List α},(∀x∈l,f x≤b)→(l.map f).sum≤b*l.length
 | [],_=>cP _
 |x::l,h=>by
  have ih:=gx (l:=l) fun y hy=>h y (bJ _ hy)
  have h0:=h x (bQ ..)
  rw [cU,f8,dF,Nat.mul_succ]
  omega
abbrev aR(a:Nat):di:=⟨200,[],[0,a,0]⟩
structure One (nd:List di) (bC:List (Option Nat)) (T:TD):Prop where
 rt:∀r,some r∈bC→r=T.t
 mA:∀x∈T.dc,x.r=0∨nd[x.r]?=some (aR x.a)
theorem yT.kind(c:yT nd T){i:Nat}(hi:i∈T.dN):∃m,nd[i]?=some m∧m.kind≠200:=by
 have aoT:∀A∈T.lJ,∃m,nd[A.id]?=some m∧m.kind≠200:=fun A hA=>⟨_,(c.arr A hA).n,by simp⟩
 unfold TD.dN at hi
 rcases bI.1 hi with hi|hi
 ·unfold TD.nV at hi
  rcases ck.1 hi with rfl|hi
  ·exact⟨_,c.g.tn,by simp⟩
  ·rcases ck.1 hi with rfl|hi
   ·exact aoT T.nw (bQ ..)
   ·cases ho:T.od with
    |none=>rw [ho]at hi;cases hi
    |some o =>
     rw [ho]at hi
     have:i=o.id:=by simpa using hi
     rw [this]
     exact aoT o (by unfold TD.lJ;rw [ho];simp)
 ·obtain⟨x,hx,hix⟩:=iR.1 hi
  obtain⟨n,ok,_⟩:=c.Uj hx
  rcases hix with rfl|rfl
  ·exact⟨_,ok.1,by simp [iM.node]⟩
  ·exact⟨_,ok.2.1,by simp [oV]⟩
theorem One.nin(c:yT nd T){a i:Nat}(hv:nd[i]?=some (aR a)):i∉T.dN:=fun hi=>by
 obtain⟨m,hm,hk⟩:=c.kind hi
 rw [hv]at hm
 exact hk (by rw [←bt hm])
theorem n9 {i a':Nat}{m:di}{z:Nat}(h1:nd[i]?=some (aR a')) (h2:nd[i]?=some m) (h3:z∈m.cY):False:=by
 rw [h1]at h2
 rw [←bt h2]at h3
 cases h3
def TD.vls(T:TD)(v:Nat):LN:=(v::T.dc.map (·.r)).filter fun i=>decide (i≠0)
theorem One.rch(o:One nd bC T)(c:yT nd T)(hv:v=0∨∃a,nd[v]?=some (aR a)) {y:Nat} (r:vD nd (some v::bC) y):y∈T.dN++T.vls v:=by
 have put:∀i,i≠0→i∈v::T.dc.map (·.r)→i∈T.dN++T.vls v:=fun i h0 h=>bK _ (dU.2 ⟨h,decide_eq_true h0⟩)
 induction r with
 |root a b =>
  rcases ck.1 a with e|e
  ·exact put _ b (by rw [bt e];exact bQ ..)
  ·rw [o.rt _ e];exact bW _ T.jO
 |next hr a b d ih =>
  rcases bI.1 ih with hi|hi
  ·rcases c.cl hi a b d with h|⟨e,he,h⟩
   ·exact bW _ h
   ·exact put _ d (bJ _ (cy.2 ⟨e,he,h.symm⟩))
  ·exfalso
   obtain⟨hi,h0⟩:=dU.1 hi
   have h0:=of_decide_eq_true h0
   rcases ck.1 hi with e|hi
   ·rcases hv with h|⟨a',h⟩
    ·exact h0 (e.trans h)
    ·rw [←e]at h;exact n9 h a b
   ·obtain⟨x,hx,e⟩:=cy.1 hi
    rcases o.mA x hx with h|h
    ·exact h0 (e.symm.trans h)
    ·rw [show x.r=_ from e]at h;exact n9 h a b
def wtN(nd:List di)(i:Nat):Nat:=2*yj (RS.qf nd i)+ym (RS.qf nd i)
theorem ape(nd:List di)(dN:LN):2*RS.mS nd dN+RS.mT nd dN=(dN.map (wtN nd)).sum:=by
 rw [Lm,Lo]
 induction dN with
 |nil=>rfl
 |cons a l ih =>
  simp only [cU,f8]at ih ⊢
  have:wtN nd a=2*yj (RS.qf nd a)+ym (RS.qf nd a):=rfl
  omega
theorem bm {i:Nat}{m:di}(h:nd[i]?=some m):wtN nd i≤m.sz+64:=by
 have e:RS.qf nd i=m.sz:=by unfold RS.qf;rw [h];rfl
 unfold wtN yj ym
 rw [e]
 split<;>omega
theorem yr {f:Nat→Nat}{b:Nat}:∀ {l:List iM},(∀x∈l,f x.e+f x.k≤b)→((iX l).map f).sum≤b*l.length
 | [],_=>cP _
 |x::l,h=>by
  have ih:=yr (l:=l) fun y hy=>h y (bJ _ hy)
  have h0:=h x (bQ ..)
  rw [gS,cU,cU,f8,f8,dF,Nat.mul_succ]
  omega
theorem yT.wt(c:yT nd T):(T.dN.map (wtN nd)).sum≤200+T.sE.1+T.sE.2.1+650*T.dc.length:=by
 unfold TD.dN
 rw [cx,iG]
 have h2:((iX T.dc).map (wtN nd)).sum≤650*T.dc.length:=yr fun x hx=>by
  obtain⟨n,ok⟩:=c.Uj hx
  have h1:=bm ok.1.1
  have h2:=bm ok.1.2.1
  have h3:(x.node n).sz=7:=rfl
  have h4:(oV x.key).sz=1+(1+dH x.key.length):=by
   rw [←ok.1.2.2.is.len];show 1+0+(j8 x.key).length=1+(j8 x.key).length;omega
  have h5:=ok.1.2.2.len
  unfold dH at h4
  omega
 have h1:(T.nV.map (wtN nd)).sum≤200+T.sE.1+T.sE.2.1:=by
  have a1:=bm c.g.tn
  have a2:=bm c.g.wn
  have e1:(⟨4,[T.nw.id,T.CU],[T.df,T.dc.length,T.mv]⟩:di).sz=6:=rfl
  have e2:(⟨5,T.nw.cs.map lL,[]⟩:di).sz=1+T.nw.cs.length+0:=by show 1+(List.map lL T.nw.cs).length+0=_;rw [bA]
  rw [c.g.ln]at e2
  have s1:T.sE.1=2 ^ T.nw.j:=rfl
  unfold TD.nV
  cases ho:T.od with
  |none =>
   simp only [cU,kI,f8,List.sum_nil]
   omega
  |some o =>
   have a3:=bm (c.g.wo o ho)
   have e3:(⟨5,tN (o.cs.map lL) T.mv none,[]⟩:di).sz=1+o.cs.length+0:=by show 1+(List.map lL o.cs).length+0=_;rw [bA]
   rw [c.g.F3 o ho]at e3
   have s2:T.sE.2.1=2 ^ o.j:=by rw [sL ho]
   simp only [cU,kI,f8,List.sum_nil]
   omega
 omega
theorem One.wt(o:One nd bC T)(c:yT nd T)(hv:v=0∨∃a,nd[v]?=some (aR a)) (lv:Lv nd (some v::bC) dN) :
  2*RS.mS nd dN+RS.mT nd dN≤268+T.sE.1+T.sE.2.1+718*T.dc.length:=by
 rw [ape]
 refine bP (PM lv.CV fun y hy=>o.rch c hv ((lv.S4 y).1 hy)) ?_
 rw [cx,iG]
 have h1:=c.wt
 have h2:((T.vls v).map (wtN nd)).sum≤68*(T.vls v).length:=gx fun y hy=>by
  obtain⟨hy,h0⟩:=dU.1 hy
  have h0:=of_decide_eq_true h0
  have key:∀a,nd[y]?=some (aR a)→wtN nd y≤68:=fun a ha=>bm ha
  rcases ck.1 hy with e|hy
  ·rcases hv with h|⟨a,h⟩
   ·exact absurd (e.trans h) h0
   ·exact key a (e▸h)
  ·obtain⟨x,hx,e⟩:=cy.1 hy
   have e:x.r=y:=e
   rcases o.mA x hx with h|h
   ·exact absurd (e.symm.trans h) h0
   ·exact key _ (e▸h)
 have h3:(T.vls v).length≤T.dc.length+1:=by
  refine bP (dT _ _) ?_
  rw [dF,bA]
  exact bH _
 omega
theorem Lv.ex {L:LN}(hL:∀x,vD nd bC x→x∈L):∃dN,Lv nd bC dN:=by
 classical
 refine⟨(List.range (L.sum+1)).filter fun x=>decide (vD nd bC x),List.nodup_range.filter _,fun x=>?_⟩
 rw [dU,jQ,decide_eq_true_eq]
 refine⟨fun h=>h.2,fun h=>⟨?_,h⟩⟩
 have:=EY (f:=fun y=>y) (hL x h)
 rw [List.map_id']at this
 omega
theorem apd(lv:Lv nd bC dN):Lv nd (some 0::bC) dN :=
 Lv.mem (fun x h0 h=>.root (bJ _ h) h0) (fun x h0 h=>by
  rcases ck.1 h with e|h
  ·exact absurd (bt e) h0
  ·exact .root h h0) lv
theorem vv {S B iN z:Nat}(w:2*S+B+2*z+131≤iN):iP iN (1+S) B z:=by
 unfold iP
 split<;>omega
theorem One.L0(o:One nd bC T)(c:yT nd T){iN z:Nat}(hl:400+T.sE.1+T.sE.2.1+718*T.dc.length+2*z≤iN):¬NRm iN nd bC z:=fun f=>by
 obtain⟨dN,lv⟩:=Lv.ex (nd:=nd) (bC:=bC) (L:=T.dN++T.vls 0) fun x r=>o.rch c (.inl rfl) (vD.mem (fun y h0 hy=>.root (bJ _ hy) h0) r)
 exact f dN lv (vv (by have:=o.wt c (.inl rfl) (apd lv);omega))
theorem One.mN(o:One nd bC T)(c:yT nd T)(hv:v=0∨∃a,nd[v]?=some (aR a)) {iN z:Nat} (hl:500+T.sE.1+T.sE.2.1+718*T.dc.length+3*z≤iN) :
  ∃dN,Lv nd (some v::bC) dN∧iP iN (1+RS.mS nd dN) (RS.mT nd dN) z∧iP iN (1+RS.mS nd dN+yj z) (RS.mT nd dN+ym z) 7:=by
 obtain⟨dN,lv⟩:=Lv.ex (nd:=nd) (bC:=some v::bC) (L:=T.dN++T.vls v) fun x r=>o.rch c hv r
 have w:=o.wt c hv lv
 refine⟨dN,lv,vv (by omega),?_⟩
 rw [mL]
 refine vv ?_
 unfold yj ym
 split<;>omega
theorem One.HS(o:One nd bC T)(c:yT nd T)(a:qB nd T gm T')(hr:∀r,some r∈jl→some r∈bC)(he:∀y∈T'.dc,(∃x∈T.dc,y.r=x.r∧y.a=x.a)∨y.r=0∨nd[y.r]?=some (aR y.a)):One gm jl T':=by
 refine⟨fun r h=>by rw [a.t];exact o.rt r (hr r h),fun y hy=>?_⟩
 have go:y.r=0∨nd[y.r]?=some (aR y.a):=by
  rcases he y hy with⟨x,hx,e1,e2⟩|h
  ·rw [e1,e2];exact o.mA x hx
  ·exact h
 rcases go with h|h
 ·exact .inl h
 ·exact .inr ((a.fr _ (bp.1 h).1 (One.nin c h)).trans h)
end
abbrev a8:=Bool × Nat × Nat
def iM.row(x:iM):LN × a8:=(x.key,decide (x.r≠0),x.a,x.b)
structure AT where
 sd:Nat
 sh:Nat × Nat × Nat
 m:List (LN × a8)
def li(sh:Nat × Nat × Nat)(n:Nat):Nat × Nat × Nat:=if sh.1<n∧sh.2.1=0 then(2*sh.1,sh.1,0)else sh
def ba(sh:Nat × Nat × Nat)(n:Nat):Nat × Nat × Nat:=if(4<sh.1∧4*n<sh.1)∧sh.2.1=0 then(sh.1 / 2,sh.1,0)else sh
namespace AT
def Bz(A:AT)(k:LN):Option (LN × a8):=A.m.find? fun p=>decide (p.1=k)
def cX(A:AT)(k:LN):Bool:=(A.Bz k).isSome
def rest(A:AT)(k:LN):List (LN × a8):=A.m.filter fun p=>decide (p.1≠k)
def put(A:AT)(k:LN)(r:a8):AT :=
 if A.cX k then⟨A.sd,tM A.sh,(k,r)::A.rest k⟩else⟨A.sd,li (tM A.sh) (A.m.length+1),(k,r)::A.rest k⟩
def u5(A:AT)(k:LN):AT :=
 if A.cX k then⟨A.sd,ba (tM A.sh) (A.m.length-1),A.rest k⟩else⟨A.sd,tM A.sh,A.rest k⟩
def su(A:AT):List (LN):=A.m.map (·.1)
end AT
section
variable {h h2:Hp} {gm lT:List di} {bC:List (Option Nat)} {hn:Nat} {T T' T2:TD} {x e:iM} {r l:List iM} {A:AT} {k key:LN} {m:List (LN × a8)}
theorem u9(sh:Nat × Nat × Nat):(tM sh).1=sh.1∧(tM sh).2.1≤sh.2.1:=by
 unfold tM
 split
 ·exact⟨rfl,bH _⟩
 ·split
  ·exact⟨rfl,cP _⟩
  ·exact⟨rfl,bH _⟩
theorem yb {sh:Nat × Nat × Nat}{n N:Nat}(h1:sh.1≤2*N+4)(h2:sh.2.1≤2*N+4)(hn:n≤N):(li sh n).1≤2*N+4∧(li sh n).2.1≤2*N+4:=by
 unfold li
 split
 ·rename_i h;exact⟨by show 2*sh.1≤2*N+4;omega,h1⟩
 ·exact⟨h1,h2⟩
theorem jj {sh:Nat × Nat × Nat}{n N:Nat}(h1:sh.1≤N)(h2:sh.2.1≤N):(ba sh n).1≤N∧(ba sh n).2.1≤N:=by
 unfold ba
 split
 ·exact⟨by show sh.1 / 2≤N;omega,h1⟩
 ·exact⟨h1,h2⟩
structure aQ (T:TD) (A:AT):Prop where
 k:oH T
 sd:T.df=A.sd
 sh:T.sE=A.sh
 m:(T.dc.map iM.row).Perm A.m
theorem aQ.len(x:aQ T A):A.m.length=T.dc.length:=by rw [←x.m.length_eq,bA]
theorem amB(l:List iM):(l.map iM.row).map (·.1)=l.map (·.key):=by rw [fh];rfl
theorem aQ.kp(x:aQ T A):A.su.Perm (T.dc.map (·.key)):=by
 rw [←amB];exact(x.m.map _).symm
theorem aQ.CV(x:aQ T A):A.su.Nodup:=x.kp.nodup_iff.2 x.k.ku
theorem tl {m:List (LN × a8)} (hn:(m.map (·.1)).Nodup) {p:LN × a8} (hp:p∈m):m.find? (fun y=>decide (y.1=p.1))=some p:=by
 induction m with
 |nil=>cases hp
 |cons y m ih =>
  rw [cU,cV]at hn
  rcases ck.1 hp with rfl|hp
  ·rw [List.find?_cons_of_pos (by simp)]
  ·rw [List.find?_cons_of_neg (by
    simp only [decide_eq_true_eq]
    intro e
    exact hn.1 (e▸cy.2 ⟨p,hp,rfl⟩))]
   exact ih hn.2 hp
theorem aQ.WV(x:aQ T A)(h:T.Bz key=some e):A.Bz key=some e.row:=by
 obtain⟨h1,h2⟩:=pz h
 have:=tl x.CV (x.m.mem_iff.1 (cy.2 ⟨e,h1,rfl⟩))
 rw [show e.row.1=key from h2]at this
 exact this
theorem aQ.Y1(x:aQ T A)(h:T.Bz key=none):A.Bz key=none:=by
 unfold AT.Bz
 rw [mu]
 intro p hp hk
 obtain⟨y,hy,rfl⟩:=cy.1 (x.m.mem_iff.2 hp)
 exact FV h y hy (of_decide_eq_true hk)
theorem aQ.wv(x:aQ T A)(h:T.Bz key=some e):A.cX key=true:=by unfold AT.cX;rw [x.WV h];rfl
theorem aQ.ya(x:aQ T A)(h:T.Bz key=none):A.cX key=false:=by unfold AT.cX;rw [x.Y1 h];rfl
theorem aQ.rest(x:aQ T A)(p:T.dc.Perm (e::r)):(r.map iM.row).Perm (A.rest e.key):=by
 have hu:=(p.map (·.key)).nodup_iff.1 x.k.ku
 rw [cU,cV]at hu
 have h1:=((p.map iM.row).symm.trans x.m).filter fun y=>decide (y.1≠e.key)
 rw [cU,gu (by simp [iM.row]),nY.2]at h1
 ·exact h1
 ·intro y hy
  obtain⟨z,hz,rfl⟩:=cy.1 hy
  simp only [decide_eq_true_eq]
  intro e2
  exact hu.1 (cy.2 ⟨z,hz,e2⟩)
theorem aQ.ap3(x:aQ T A)(h:A.cX key=false):A.rest key=A.m:=by
 unfold AT.rest
 refine nY.2 fun y hy=>?_
 simp only [decide_eq_true_eq]
 intro e
 unfold AT.cX AT.Bz at h
 rw [Option.isSome_eq_false_iff,Option.isNone_iff_eq_none,mu]at h
 exact h y hy (decide_eq_true e)
theorem WM {c:Prop}[Decidable c] {iN j:Nat} (b:Nk c iN lT bC T2 j gm T') (wX:¬NRm iN lT bC (1+2 ^ j)):T'.sE=if c∧T2.sE.2.1=0 then(2 ^ j,T2.sE.1,0)else T2.sE:=by
 unfold Nk at b
 by_cases hc:c
 ·rw [if_pos hc]at b
  cases ho:T2.od with
  |none =>
   rw [if_pos ⟨hc,IJ.2 ho⟩]
   by_cases hs:T'.sE=T2.sE
   ·exact absurd (b.L0 ho hs) wX
   ·exact(b.room ho hs).1
  |some o =>
   have iS:T2.od≠none:=by rw [ho];nofun
   rw [if_neg fun z=>iS (IJ.1 z.2)]
   exact b.was iS
 ·rw [if_neg hc]at b
  rw [if_neg fun z=>hc z.1,b.1]
end
structure aN (M:Nat) (h:Hp) (q:HQ) (s:RS) (nd:List di) (tb hn:Nat) (T:TD) (A:AT):Prop where
 p:qA h q s nd tb hn T
 o:One nd s.bC T
 y:aQ T A
 s1:A.sh.1≤2*M+4
 s2:A.sh.2.1≤2*M+4
 iN:730*M+3000≤s.cM
 rl:s.bC.length≤100
 crq:rF s.bC≤10
section
variable {h h' h2:Hp} {q q':HQ} {s s':RS} {nd gm kq lT:List di} {bC:List (Option Nat)} {tb hn v w1 w2 M:Nat} {T T' T1 T2:TD} {dN:LN} {x e:iM} {r:List iM} {A A':AT} {k key:LN} {m:List (LN × a8)} {R:RP} {a:Sl}
theorem aN.cI(x:aN M h q s nd tb hn T A)(k:bY N h h'):aN M h' q s nd tb hn T A:=⟨x.p.cI k,x.o,x.y,x.s1,x.s2,x.iN,x.rl,x.crq⟩
theorem aN.HS(x:aN M h q s nd tb hn T A)(a:uB h q s nd T h' q' s' gm T')(he:∀y∈T'.dc,(∃x∈T.dc,y.r=x.r∧y.a=x.a)∨y.r=0∨nd[y.r]?=some (aR y.a)) (y:aQ T' A') (s1:A'.sh.1≤2*M+4) (s2:A'.sh.2.1≤2*M+4):aN M h' q' s' gm tb hn T' A' where
 p:=a.jp x.p
 o:=x.o.HS x.p.c a.n (fun r h=>(a.T5.mem r).1 h) he
 y:=y
 s1:=s1
 s2:=s2
 iN:=by rw [a.iN];exact x.iN
 rl:=by have h1:=a.agC;have h2:=x.rl;have h3:=x.crq;omega
 crq:=by rw [a6 a.T5];exact x.crq
theorem aZ(p:T'.dc.Perm T.dc):∀y∈T'.dc,(∃x∈T.dc,y.r=x.r∧y.a=x.a)∨y.r=0∨nd[y.r]?=some (aR y.a):=fun y hy=>.inl ⟨y,p.mem_iff.1 hy,rfl,rfl⟩
theorem amm {j:Nat}(h:4<2 ^ j):2 ^ (j-1)=2 ^ j / 2:=by
 cases j with
 |zero=>simp at h
 |succ j=>rw [mr];show 2 ^ j=_;omega
theorem as8(x:aN M h q s nd tb hn T A)(sr:Zs h q a key)(o0:key.length≤4096)(hv:v=0∨(s.da v∧nd[v]?=some (aR w1))) (hw1:w1<18446744073709551616) (hw2:w2<18446744073709551616) (hA:A.m.length<M)
  (hR:∀h' q' s' gm T',uB h q s nd T h' q' s' gm T'→aN M h' q' s' gm tb hn T' (A.put key (decide (v≠0),w1,w2))→R (vt #[vb (!A.cX key),vi 0]) h') :
  bq PG 48 #[vp (sa tb),.slice a.a a.n a.c,uv (s.fk v),uv w1,uv w2] h R:=by
 have hlA:=x.y.len
 have hvn:v=0∨∃a,nd[v]?=some (aR a):=hv.imp_right fun h=>⟨_,h.2⟩
 have GV:=u9 A.sh
 have hs1:=x.s1
 have hs2:=x.s2
 have aud:=x.iN
 have ati:∀ {kq:List di} {T1:TD},qB nd T kq T1→∀ {a:Nat},nd[v]?=some (aR a)→kq[v]?=some (aR a):=fun n _ h=>(n.fr _ (bp.1 h).1 (One.nin x.p.c h)).trans h
 refine aqw x.p x.y.k sr o0 (by have:=x.rl;omega) (hv.imp_right (·.1)) hw1 hw2 (fun e r h1 q1 s1 kq T1 hf p1 p2 sh a1=>?_) (fun h1 q1 s1 kq T1 ndx hf n1 st _ sY a1=>?_) fun y h1 q1 s1 kq T1 lT T2 SS T3 hf n1 st n2 _ ek er ea eb eh pp _ _ sh2 en k2 a1=>?_
 ·
  have hh:=x.y.wv hf
  obtain⟨hm,hk⟩:=pz hf
  rw [hh]at hR
  refine hR h1 q1 s1 kq T1 a1 (x.HS a1 (fun y hy=>?_) ?_ ?_ ?_)
  ·rcases ck.1 (p2.mem_iff.1 hy)with rfl|hy
   ·right
    rcases hv with h|h
    ·exact .inl h
    ·exact .inr h.2
   ·exact .inl ⟨y,p1.mem_iff.2 (bJ _ hy),rfl,rfl⟩
  ·unfold AT.put
   rw [if_pos hh]
   refine⟨x.y.k.aqu a1.n.df p1 p2 rfl rfl,a1.n.df.trans x.y.sd,by rw [sh,x.y.sh],?_⟩
   refine(p2.map iM.row).trans ?_
   rw [cU,←hk]
   exact List.Perm.cons _ (x.y.rest p1)
  ·unfold AT.put;rw [if_pos hh];show (tM A.sh).1≤2*M+4;omega
  ·unfold AT.put;rw [if_pos hh];show (tM A.sh).2.1≤2*M+4;omega
 ·
  exfalso
  have o1:One kq s.bC T1:=x.o.HS x.p.c n1 (fun _ h=>h) (aZ st.lS)
  have hs:=st.sn
  rw [x.y.sh]at hs
  obtain⟨dN,lv,r1⟩:=o1.mN (v:=v) n1.c (hvn.imp_right fun⟨a,h⟩=>⟨a,ati n1 h⟩) (iN:=s.cM) (z:=2+dH key.length) (by rw [hs,st.lS.length_eq];unfold dH;omega)
  exact sY dN lv r1
 ·
  have hh:=x.y.ya hf
  have n02:=n1.trans n2
  have pT2:T2.dc.Perm (y::T.dc):=pp.trans (List.Perm.cons _ st.lS)
  have LG:∀z∈T2.dc,(∃x∈T.dc,z.r=x.r∧z.a=x.a)∨z.r=0∨nd[z.r]?=some (aR z.a):=fun z hz=>by
   rcases ck.1 (pT2.mem_iff.1 hz)with rfl|hz
   ·right
    rw [er,ea]
    rcases hv with h|h
    ·exact .inl h
    ·exact .inr h.2
   ·exact .inl ⟨z,hz,rfl,rfl⟩
  have o2:One lT s.bC T2:=x.o.HS x.p.c n02 (fun _ h=>h) LG
  have hs:T2.sE=tM A.sh:=by rw [sh2,st.sn,x.y.sh]
  have HX:T2.dc.length=A.m.length+1:=by rw [pT2.length_eq,dF,hlA]
  have e3:=en.HS n2.c
  have hj:2 ^ T2.nw.j≤2*M+4:=by
   have:T2.sE.1≤2*M+4:=by rw [hs];omega
   exact this
  have hz:2 ^ (T2.nw.j+1)=2*2 ^ T2.nw.j:=by rw [mr];omega
  have esh:=WM en (o2.L0 n2.c (by rw [hs];omega))
  have eg:T3.sE=li (tM A.sh) (A.m.length+1):=by
   rw [esh,hs]
   unfold li
   have e1:2 ^ T2.nw.j=(tM A.sh).1:=by rw [←hs];rfl
   rw [HX,hz,e1]
  rw [hh]at hR
  refine hR h1 q1 s1 SS T3 a1 (x.HS a1 (fun z hz=>LG z (e3.2.mem_iff.1 hz)) ?_ ?_ ?_)
  ·unfold AT.put
   rw [hh,if_neg (by simp)]
   refine⟨k2.lS e3.1.df e3.2,a1.n.df.trans x.y.sd,eg,?_⟩
   refine((e3.2.trans pT2).map iM.row).trans ?_
   rw [cU,x.y.ap3 hh]
   have:y.row=(key,decide (v≠0),w1,w2):=by unfold iM.row;rw [ek,er,ea,eb]
   rw [this]
   exact List.Perm.cons _ x.y.m
  ·unfold AT.put;rw [hh,if_neg (by simp)]
   exact(yb (by omega) (by omega) (by omega)).1
  ·unfold AT.put;rw [hh,if_neg (by simp)]
   exact(yb (by omega) (by omega) (by omega)).2
theorem atY(x:aN M h q s nd tb hn T A)(sr:Zs h q a key)(hl:key.length≤140737488351232)(hA:A.m.length≤M)
  (hR:∀h' q' s' gm T',uB h q s nd T h' q' s' gm T'→aN M h' q' s' gm tb hn T' (A.u5 key)→R (vi (if A.cX key then 0 else 63)) h') :
  bq PG 49 #[vp (sa tb),.slice a.a a.n a.c] h R:=by
 have hlA:=x.y.len
 have GV:=u9 A.sh
 have hs1:=x.s1
 have hs2:=x.s2
 have aud:=x.iN
 refine Z7 x.p x.y.k sr.rd sr.n sr.b8 hl sr.out (fun h1 q1 s1 kq T1 hf a1 st=>?_) fun e r h1 q1 s1 kq T1 lT T2 hf n1 p1 p2 sh en a1=>?_
 ·have hh:=x.y.ya hf
  rw [hh]at hR
  refine hR h1 q1 s1 kq T1 a1 (x.HS a1 (aZ st.lS) ?_ ?_ ?_)
  ·unfold AT.u5
   rw [hh,if_neg (by simp)]
   refine⟨x.y.k.lS st.df st.lS,st.df.trans x.y.sd,by rw [st.sn,x.y.sh],?_⟩
   rw [x.y.ap3 hh]
   exact(st.lS.map _).trans x.y.m
  ·unfold AT.u5;rw [hh,if_neg (by simp)];show (tM A.sh).1≤2*M+4;omega
  ·unfold AT.u5;rw [hh,if_neg (by simp)];show (tM A.sh).2.1≤2*M+4;omega
 ·have hh:=x.y.wv hf
  obtain⟨hm,hk⟩:=pz hf
  have LG:∀z∈T1.dc,(∃x∈T.dc,z.r=x.r∧z.a=x.a)∨z.r=0∨nd[z.r]?=some (aR z.a):=fun z hz=>.inl ⟨z,p1.mem_iff.2 (bJ _ (p2.mem_iff.1 hz)),rfl,rfl⟩
  have o1:One kq s.bC T1:=x.o.HS x.p.c n1 (fun _ h=>h) LG
  have hs:T1.sE=tM A.sh:=by rw [sh,x.y.sh]
  have hlr:T.dc.length=r.length+1:=by rw [p1.length_eq,dF]
  have hl1:T1.dc.length=A.m.length-1:=by rw [p2.length_eq];omega
  have e3:=en.HS n1.c
  have hj:2 ^ T1.nw.j≤2*M+4:=by
   have:T1.sE.1≤2*M+4:=by rw [hs];omega
   exact this
  have hz:2 ^ (T1.nw.j-1)≤2 ^ T1.nw.j:=fQ (by omega) (by omega)
  have esh:=WM en (o1.L0 n1.c (by rw [hs];omega))
  have eg:T2.sE=ba (tM A.sh) (A.m.length-1):=by
   rw [esh]
   unfold ba
   have e1:2 ^ T1.nw.j=(tM A.sh).1:=by rw [←hs];rfl
   by_cases hc:4<2 ^ T1.nw.j
   ·rw [amm hc,hl1,hs,e1]
   ·rw [if_neg fun z=>hc z.1.1,hs,if_neg fun z=>hc (by rw [e1];exact z.1.1)]
  rw [hh]at hR
  refine hR h1 q1 s1 lT T2 a1 (x.HS a1 (fun z hz=>LG z (e3.2.mem_iff.1 hz)) ?_ ?_ ?_)
  ·unfold AT.u5
   rw [if_pos hh]
   refine⟨x.y.k.cut a1.n.df p1 (e3.2.trans p2),a1.n.df.trans x.y.sd,eg,?_⟩
   rw [←hk]
   exact((e3.2.trans p2).map _).trans (x.y.rest p1)
  ·unfold AT.u5;rw [if_pos hh]
   exact(jj (by omega) (by omega)).1
  ·unfold AT.u5;rw [if_pos hh]
   exact(jj (by omega) (by omega)).2
def Y2(s:RS)(nd:List di)(v:Nat)(w:a8):Prop:=(w.1=false∧v=0)∨(w.1=true∧v≠0∧s.da v∧nd[v]?=some (aR w.2.1))
theorem ame(x:aN M h q s nd tb hn T A)(sr:Zs h q a key)(hl:key.length≤140737488351232)
  (wX:A.Bz key=none→∀h',bY N h h'→R (vt #[uv 0,uv 0,uv 0,vi 63]) h')
  (xK:∀w v h',A.Bz key=some (key,w)→bY N h h'→Y2 s nd v w→R (vt #[uv (s.fk v),uv w.2.1,uv w.2.2,vi 0]) h') :
  bq PG 28 #[vp (sa tb),.slice a.a a.n a.c] h R:=by
 refine ac7 x.p x.y.k sr.rd sr.n sr.b8 hl (fun hf h1 k1=>wX (x.y.Y1 hf) h1 k1) fun e h1 hf k1=>?_
 have hs:=x.y.WV hf
 obtain⟨hm,hk⟩:=pz hf
 refine xK e.row.2 e.r h1 (by rw [hs];show some (e.key,_)=_;rw [hk];rfl) k1 ?_
 by_cases h0:e.r=0
 ·exact .inl ⟨decide_eq_false fun h=>h h0,h0⟩
 ·refine .inr ⟨decide_eq_true h0,h0,(x.p.Kw hm).resolve_left h0,(x.o.mA e hm).resolve_left h0⟩
end
end Go.Ev
