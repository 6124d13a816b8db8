/- The play's new objects: object. No condition. -/
import Derived.Test.YtjigacanjlppiaaGreatDoorP18
set_option linter.all false
set_option maxRecDepth 1000000
open Go.IntKind (wrap)
namespace Go.Ev
open Go.Proofs
structure Fr (h:Hp) (D:PL) (h':Hp) (D':PL):Prop where
 k:bY (fun b=>D.q.bR b≠.out∨D.Y.own b) h h'
 r:∀b,b<h.size→D.q.bR b=.out→D'.q.bR b=.out
 o:∀b,D'.Y.own b→D.Y.own b∨h.size≤b
section
variable {h h1 h' h2 g:Hp} {pb k i n:Nat} {D D' D2:PL} {q1:HQ} {s1:RS} {nd kq:List di} {R:RP} {v:VD} {t:DT} {vo:LN} {o:Kd} {W:DW} {Y:Mem} {wb:Nat}
theorem Fr.trans(a:Fr h D h' D')(b:Fr h' D' h2 D2):Fr h D h2 D2 :=
 ⟨⟨bP a.k.1 b.k.1,fun x hx hn=>(b.k.2 x (bZ hx a.k.1) fun z=>by
  rcases z with z|z
  ·exact z (a.r x hx (iq fun h=>hn (.inl h)))
  ·rcases a.o x z with h|h
   ·exact hn (.inr h)
   ·omega).trans (a.k.2 x hx hn)⟩,fun x hx ho=>b.r x (bZ hx a.k.1) (a.r x hx ho),fun x hx=>(b.o x hx).elim (a.o x) fun h=>.inr (bP a.k.1 h)⟩
theorem Fr.ofN(kk:bY N h h'):Fr h D h' D:=⟨kk.mono fun _ _ z=>z.elim,fun _ _ h=>h,fun _=>.inl⟩
theorem Fr.SO(e:Ex h D.q h' q1):Fr h D h' (D.prog q1 s1 kq):=⟨e.gK.mono fun _ _ z=>.inl z,fun b hb ho=>e.out hb ho,fun _=>.inl⟩
theorem Fr.alG(c:ui h D.Y h' D'.Y)(e:D'.q=D.q):Fr h D h' D':=⟨c.1.mono fun _ _ z=>.inr z,fun b _ ho=>by rw [e];exact ho,c.2⟩
theorem Fr.row(f:Fr h D h' D'){b:Nat}{cs:LV}(r:eM h b cs)(h1:D.q.bR b=.out)(h2:¬D.Y.own b):eM h' b cs:=bF f.k r fun z=>z.elim (fun z=>z h1) h2
theorem B4(x:Pl h pb D k)(hk:k≤200000){z:Int}(hz:-9223372036854775808≤z∧z<9223372036854775808)
  (wX:∀h' q1 s1,Pl h' pb (D.prog q1 s1 D.nd) (k+1)→Fr h D h' (D.prog q1 s1 D.nd)→R (vt #[uv 0,vi 0,vb true]) h')
  (vV:∀h' D' id zz,Pl h' pb D' (k+1)→D'.hB=D.hB→Fr h D h' D'→D'.s.da id→D'.vo=D.vo++[id]→D'.W.eX=D.W.eX++[zz]→D'.W.de=D.W.de→D'.W.gy=D.W.gy→D'.lv=D.lv→D'.vw=D.vw→D'.ho=D.ho→D'.lo=D.lo→D'.wb=D.wb→2≤zz.1→R (vt #[uv (D'.s.fk id),vi (D.W.eX.length:Nat),vb true]) h') :
  bq PG 146 #[vp (sa pb),vi z] h R:=by
 have m1:=jk z (b:=399) (by omega)
 have m2:=gI z (b:=399) (by omega)
 have bd:=x.w.bd
 have vn:=x.m.wm.vn
 refine Yc ?_
 unfold ae9
 refine rD (n:=399) (by omega) (by omega) hz ⟨_,rfl,bw ⟨_,(x.m.cl 1).trans rfl,?_⟩⟩
 obtain⟨m,hm⟩:∃m:Nat,z%((399:Nat):Int)=(m:Int):=⟨(z%((399:Nat):Int)).toNat,(fj m1).symm⟩
 have awB:m<399:=by have:(m:Int)<399:=hm▸m2;omega
 rw [hm]
 have e1:wrap .i64 ((2:Int)+(m:Nat))=((2+m:Nat):Int):=by rw [bU (by omega) (by omega)];rfl
 rw [e1]
 have e2:wrap .i64 (((2+m:Nat):Int)-(1:Int))=((1+m:Nat):Int):=by rw [bU (by omega) (by omega)];omega
 rw [e2]
 refine afK x.m.wm x.w.wv (by omega) fun h2 k2=>⟨_,rfl,bw ⟨_,(x.cI k2).m.BH,?_⟩⟩
 have x2:=x.cI k2
 have LF:=x2.room 0 (1+m)
 have e3:1+0+(1+m)=2+m:=by omega
 rw [e3]at LF
 refine A7 x2.r.g (k:=200) (r:=0) (w:=1+m) ⟨(by omega),(by omega),(by omega)⟩ rfl rfl rfl (fun h3 q3 s3 g3 er lm ex hr=>⟨_,_,rfl,?_⟩) fun h3 q3 s3 g3 er lm hh ex hr=>⟨_,_,rfl,?_⟩
 ·rw [decide_eq_false (fun h=>hr (LF.2 h))]
  refine cr rfl (wX h3 q3 s3 (x2.prog g3 ex (er▸x2.w.pg) (er▸wQ.refl _) lm (bH _) (by rw [er];omega)) ?_)
  exact(Fr.ofN k2).trans (Fr.SO ex)
 ·rw [decide_eq_true (LF.1 hr)]
  refine cj rfl (cj rfl ?_)
  have x3:Pl h3 pb (D.prog q3 s3 (D.nd++[⟨200,List.replicate 0 0,List.replicate (1+m) 0⟩])) (k+1):=x2.prog g3 ex (x2.w.pg.grow _ fun r _=>by rw [er]) (er▸wQ.refl _) lm (by rw [bG];omega) (by rw [er];omega)
  refine bw ⟨_,(x3.m.cl 1).trans rfl,bw ⟨D.W.vs,(x3.m.wm.cl 1).trans rfl,bw ⟨_,x3.m.BH,?_⟩⟩⟩
  have BG:D.W.eX.length≤200001:=by omega
  have e4:wrap .u64 ((wrap .u64 (D.W.vs.n:Int))*(1000003:Int))=((D.W.eX.length*1000003:Nat):Int):=by
   rw [vn,eN (x:=(D.W.eX.length:Int)) (by omega) (by omega),eN (by omega) (by omega)];rfl
  rw [e4]
  generalize awA:D.W.eX.length*1000003=mark
  have hmk:mark<18446744073709551616:=by omega
  refine Vs x3.r.g (id:=D.nd.length) (n:=⟨200,List.replicate 0 0,List.replicate (1+m) 0⟩) (k:=0) (by show (D.nd++_)[D.nd.length]?=_;rw [bN (bH _),dD];rfl) hh hmk (by show 0<(List.replicate (1+m) 0).length;rw [fq];omega) rfl fun h4 q4 s4 g4 al er4 ZS=>⟨_,rfl,?_⟩
  have auB:(D.prog q3 s3 (D.nd++[⟨200,List.replicate 0 0,List.replicate (1+m) 0⟩])).nd.set D.nd.length ⟨200,List.replicate 0 0,(List.replicate (1+m) 0).set 0 mark⟩=D.nd++[zM (2+m,mark)]:=by
   show (D.nd++[_]).set D.nd.length _=_
   rw [gp _ _ (bH _),dD,jD]
   have e5:(List.replicate (1+m) 0).set 0 mark=mark::List.replicate m 0:=by rw [sC,rV,jD]
   have e6:zM (2+m,mark)=⟨200,[],mark::List.replicate m 0⟩:=by unfold zM;rw [show 2+m-2=m by omega]
   rw [e5,e6];rfl
  rw [auB]at g4
  have ext:Ex h2 D.q h4 q4:=ex.trans ZS
  have Ui:s4.bC=D.s.bC:=er4.trans er
  have x4:Pl h4 pb (D.prog q4 s4 (D.nd++[zM (2+m,mark)])) (k+1):=x2.prog g4 ext (x2.w.pg.grow _ fun r _=>by rw [Ui]) (Ui▸wQ.refl _) (al.iN.trans lm) (by rw [bG];omega) (by rw [Ui];omega)
  have hh4:s4.da D.nd.length:=(al.da _).2 hh
  refine bw ⟨_,(x4.m.cl 1).trans rfl,bw ⟨_,(x4.m.cl 1).trans rfl,bw ⟨D.W.vs,(x4.m.wm.cl 1).trans rfl,dh fun h5 e5=>?_⟩⟩⟩
  have k5:bY N h4 h5:=e5▸cF _ _ _
  have r5:eM h5 h4.size (F6 (2+m,mark)):=by rw [e5];exact du h4 #[wv (2+m),uv mark] 230
  clear e5
  have x5:=x4.cI k5
  refine⟨⟨D.W.vs,(x5.m.wm.cl 1).trans rfl,rfl⟩,⟨_,(x5.m.cl 1).trans rfl,rfl⟩,⟨_,(x5.m.cl 1).trans rfl,rfl⟩,?_⟩
  refine⟨F6 (2+m,mark),lq r5,rfl,x5.m.wm.va.app x5.m.wm.sp rfl rfl (fun v hv=>by simp [F6]at hv;rcases hv with rfl|rfl<;>rfl) (by show (2*(D.W.vs.n+1)+768)*16≤2 ^ 48;omega) (by show D.W.vs.n+1<2 ^ 62;omega) fun a' c' h6 ob cc s6 i6 c6=>?_⟩
  have i6:kO 2 (D.Y.jR 2 ob cc) 2 ⟨a',D.W.vs.n+1,c'⟩ ((D.W.eX++[(2+m,mark)]).flatMap F6):=by
   have e7:(D.W.eX++[(2+m,mark)]).flatMap F6=D.W.eX.flatMap F6++F6 (2+m,mark):=by rw [gW,cJ,iW,eV]
   rw [e7]
   exact i6
  have l0:(D.Y.jR 2 ob cc).loc 0=some pb:=by rw [Mem.fR _ _ _ (by omega)];exact x5.m.l0
  have cc0:(D.Y.jR 2 ob cc).fM 0=_:=(Mem.gr _ _ _ (by omega)).trans x5.m.c0
  refine⟨⟨_,(s6.FP l0 1).trans (congrArg (fun l:LV=>l[1]?) cc0),rfl⟩,bw (x5.m.wm.ak9 s6 i6 c6 rfl fun h7 Y7 w7 c7 VG=>?_)⟩
  have ok7:=ui.VC x5.m x5.r c7
  have r7:=x5.r.own x5.m c7
  have l07:Y7.loc 0=some pb:=(VG 0 (by omega) (by omega)).1.trans x5.m.l0
  have c07:Y7.fM 0=_:=(VG 0 (by omega) (by omega)).2.trans x5.m.c0
  refine bw ⟨_,(w7.sp.FP l07 1).trans (congrArg (fun l:LV=>l[1]?) c07),bw ⟨⟨a',D.W.vs.n+1,c'⟩,(w7.cl 1).trans rfl,?_⟩⟩
  have eL:wrap .i64 ((((⟨a',D.W.vs.n+1,c'⟩:Sl).n:Nat):Int)-(1:Int))=(D.W.eX.length:Int):=by
   show wrap .i64 (((D.W.vs.n+1:Nat):Int)-1)=_
   rw [bU (by omega) (by omega)];omega
  rw [eL]
  have aBe:D.nd.length=D.nd.length:=rfl
  have eR:s3.fk D.nd.length=s4.fk D.nd.length:=(al.fk _).symm
  have pg':qK (D.nd++[zM (2+m,mark)]) s4.bC {D.W with eX:=D.W.eX++[(2+m,mark)],vs:=⟨a',D.W.vs.n+1,c'⟩} (D.vo++[D.nd.length]) D.to D.lv:=x2.w.pg.ajj (by rw [bN (bH _),dD];rfl) (bH _) (by show 2≤2+m;omega) x2.w.n1 fun r _=>by rw [Ui]
  have Du:WV {D.W with eX:=D.W.eX++[(2+m,mark)],vs:=⟨a',D.W.vs.n+1,c'⟩}:=⟨x.w.wv.iN,by show 1≤(D.W.eX++_).length;rw [bG];have:=x.w.wv.v1;omega,by show (D.W.eX++_).length≤_;rw [bG];show D.W.eX.length+1≤_;omega,fun v hv=>by
   rcases bI.1 hv with h|h
   ·exact x.w.wv.vz v h
   ·rw [bM.1 h];show 2+m≤512;omega,x.w.wv.tl,x.w.wv.bl,x.w.wv.bz,fun t ht=>by
   obtain⟨a,b,c⟩:=x.w.wv.es t ht
   exact⟨a,fun e he=>by show e.val<(D.W.eX++_).length;rw [bG];have:=b e he;omega,c⟩⟩
  have tG:HC s4.bC {D.W with eX:=D.W.eX++[(2+m,mark)],vs:=⟨a',D.W.vs.n+1,c'⟩} (D.vo++[D.nd.length]) D.to D.lv D.vw D.ho D.lo:=x2.w.hc.AZ (Ui▸wQ.refl _) (fun _ _=>rfl) rfl rfl (fun w hw=>by
   have hw2:=(x2.w.pg.PX hw).2
   rw [←x2.w.pg.mA]at hw2
   rw [bB,bB,bL hw2]) fun i t h=>⟨t,h,rfl,rfl⟩
  have P:Pl h7 pb {D with W:={D.W with eX:=D.W.eX++[(2+m,mark)],vs:=⟨a',D.W.vs.n+1,c'⟩},q:=q4,s:=s4,nd:=D.nd++[zM (2+m,mark)],vo:=D.vo++[D.nd.length],Y:=Y7} (k+1) :=
   ⟨⟨l07,c07,w7,x5.m.F5.iy (VG 5 (by omega) (by omega)),x5.m.hi.iy (VG 6 (by omega) (by omega)),x5.m.li.iy (VG 7 (by omega) (by omega)),ok7,x5.m.su,x5.m.Hj,⟨(x5.m.bs.own c7).1,x5.m.bs.r,(x5.m.bs.own c7).2,x5.m.bs.v⟩⟩,⟨r7.g,r7.tz,r7.mA⟩,⟨pg',tG,Du,(al.iN.trans lm).trans x.w.iN,by rw [bG];have:=x.w.n1;omega,by show s4.bC.length≤_;rw [Ui];have:=x.w.rl;omega,by show (D.W.eX++_).length≤_∧_;rw [bG];exact⟨by show D.W.eX.length+1≤_;omega,by show D.W.de.length≤_;omega,by show D.W.gy.length≤_;omega,by show D.vw.length≤_;omega,by show D.ho.length≤_;omega⟩⟩⟩
  have F:Fr h D h7 {D with W:={D.W with eX:=D.W.eX++[(2+m,mark)],vs:=⟨a',D.W.vs.n+1,c'⟩},q:=q4,s:=s4,nd:=D.nd++[zM (2+m,mark)],vo:=D.vo++[D.nd.length],Y:=Y7} :=
   (Fr.ofN k2).trans ((Fr.SO (s1:=s4) (kq:=D.nd++[zM (2+m,mark)]) ext).trans ((Fr.ofN k5).trans (Fr.alG c7 rfl)))
  have nA:=vV h7 _ D.nd.length (2+m,mark) P rfl F hh4 rfl rfl rfl rfl rfl rfl rfl rfl rfl (by show 2≤2+m;omega)
  have nA:R (vt #[uv (s4.fk D.nd.length),vi (D.W.eX.length:Nat),vb true]) h7:=nA
  rw [←eR]at nA
  exact nA
end
def zZ(l:List VD):Nat:=(l.filter fun v=>v.jp).length
def yY(l:List zg):Nat:=(l.filter fun x=>x.id.isSome).length
def yZ(l:LN):Nat:=(l.filter fun z=>decide (0<z)).length
theorem Ci {α:Type}{p:α→Bool}{l:List α}{i:Nat}{x:α}(h:l[i]?=some x):((l.take (i+1)).filter p).length=((l.take i).filter p).length+(if p x then 1 else 0):=by
 rw [jP,h,gG,bG]
 congr 1
 show (([x]:List α).filter p).length=_
 rw [eP]
 cases p x<;>rfl
theorem Bn {α β:Type}{f:α→Option β}{p:α→Bool}:∀ {l:List α},(∀x∈l,(f x).isSome=p x)→(l.filterMap f).length=(l.filter p).length
 | [],_=>rfl
 |x::l,h=>by
  have ih:=Bn (l:=l) fun y hy=>h y (bJ _ hy)
  have hx:=h x (bQ ..)
  rw [iw,eP,←hx]
  cases f x with
  |none=>exact ih
  |some y=>simp [ih]
section
variable {h:Hp} {pb k i:Nat} {D:PL} {R:RP} {bC:List (Option Nat)} {W:DW} {vo:LN} {to:List TD} {lv:LN} {vw:List VD} {ho:List zg} {lo:LN}
theorem HC.len(c:HC bC W vo to lv vw ho lo)(ll:lv.length=W.gy.length):rF bC=zZ vw+(yY ho+yZ W.gy):=by
 rw [c.c.TC]
 unfold HS zZ yY yZ
 rw [bG,bG]
 have h1:(vw.filterMap (oM to)).length=(vw.filter fun v=>v.jp).length:=Bn fun v _=>by unfold oM;cases v.jp<;>rfl
 have h2:(ho.filterMap (pV to)).length=(ho.filter fun x=>x.id.isSome).length:=Bn fun y _=>by unfold pV;cases y.id<;>rfl
 have h3:(((W.gy.zip lv).zip lo).filterMap (pu vo)).length=(W.gy.filter fun z=>decide (0<z)).length:=by
  rw [Bn (p:=fun q:(Nat × Nat) × Nat=>decide (0<q.1.1)) fun q _=>by unfold pu;split<;>simp_all]
  have e:W.gy=((W.gy.zip lv).zip lo).map fun q=>q.1.1:=by
   have e1:((W.gy.zip lv).zip lo).map (·.1)=W.gy.zip lv:=List.map_fst_zip (by rw [rK,ll,Nat.min_self,c.lp.1];exact bH _)
   have e2:(W.gy.zip lv).map (·.1)=W.gy:=List.map_fst_zip (by rw [ll];exact bH _)
   conv=>lhs;rw [←e2,←e1]
   rw [fh];rfl
  conv=>rhs;rw [e]
  rw [List.filter_map,bA];rfl
 rw [h1,h2,h3]
theorem OC(x:Pl h pb D k)(hk:k≤200000)(hR:R (vi (zZ D.vw+(yY D.ho+yZ D.W.gy):Nat)) h):bq PG 145 #[vp (sa pb)] h R:=by
 have bd:=x.w.bd
 have vn:=x.m.vn
 have hn:=x.m.hn
 have bn:=x.m.wm.bn
 have l1:zZ D.vw≤D.vw.length:=dT _ _
 have l2:yY D.ho≤D.ho.length:=dT _ _
 refine Yd ?_
 unfold afa
 refine Mx (fun m s0 s3 s4 g=>∃i:Nat,i≤D.vw.length∧m=D.vw.length-i∧some (ad pb)=s0∧s3=((zZ (D.vw.take i):Nat):Int)∧s4=(i:Int)∧h=g) D.vw.length ⟨0,cP _,rfl,rfl,rfl,rfl,rfl⟩ ?_
 rintro m s0 s3 s4 g0 g ⟨i,hi,rfl,rfl,rfl,rfl,rfl⟩
 have lt:zZ (D.vw.take i)≤200000:=by
  have:zZ (D.vw.take i)≤(D.vw.take i).length:=dT _ _
  rw [dm]at this
  omega
 unfold Pf
 refine bw ⟨D.rZ,(x.m.cl 2).trans rfl,ca (fun fE=>?_) fun o5=>?_⟩
 ·have iZ:i<D.vw.length:=by omega
  have hv:D.vw[i]?=some (D.vw[i]'iZ):=br iZ
  generalize D.vw[i]'iZ=v at hv
  obtain⟨b,_,ha,hc⟩:=x.m.Qd hv
  have hf:zZ (D.vw.take (i+1))=zZ (D.vw.take i)+(if v.jp then 1 else 0):=Ci hv
  refine bw ⟨D.rZ,(x.m.cl 2).trans rfl,(by omega),cW ha ⟨_,by rw [bu];exact(hc 2 (by omega)).trans rfl,fY (fun ho=>?_) fun ho=>?_⟩⟩
  ·unfold JA
   rw [if_pos ho]at hf
   exact⟨D.vw.length-(i+1),by omega,i+1,iZ,rfl,rfl,by rw [hf,bU (by omega) (by omega)];rfl,by rw [bU (by omega) (by omega)];rfl,rfl⟩
  ·unfold JA
   rw [if_neg (by rw [ho];exact Bool.false_ne_true)]at hf
   exact⟨D.vw.length-(i+1),by omega,i+1,iZ,rfl,rfl,by rw [hf];rfl,by rw [bU (by omega) (by omega)];rfl,rfl⟩
 obtain rfl:i=D.vw.length:=by omega
 rw [dE]
 refine Mw (fun m s0 s3 s5 g=>∃i:Nat,i≤D.ho.length∧m=D.ho.length-i∧some (ad pb)=s0∧s3=((zZ D.vw+yY (D.ho.take i):Nat):Int)∧s5=(i:Int)∧h=g) D.ho.length ⟨0,cP _,rfl,rfl,rfl,rfl,rfl⟩ ?_
 rintro m s0 s3 s5 g0 g ⟨i,hi,rfl,rfl,rfl,rfl,rfl⟩
 have lt:yY (D.ho.take i)≤200000:=by
  have:yY (D.ho.take i)≤(D.ho.take i).length:=dT _ _
  rw [dm]at this
  omega
 unfold Pe
 refine bw ⟨D.vg,(x.m.cl 3).trans rfl,ca (fun fE=>?_) fun o5=>?_⟩
 ·have iZ:i<D.ho.length:=by omega
  have hv:D.ho[i]?=some (D.ho[i]'iZ):=br iZ
  generalize D.ho[i]'iZ=y at hv
  obtain⟨b,_,ha,hc⟩:=x.m.yL hv
  have hf:yY (D.ho.take (i+1))=yY (D.ho.take i)+(if y.id.isSome then 1 else 0):=Ci hv
  refine bw ⟨D.vg,(x.m.cl 3).trans rfl,(by omega),cW ha ⟨_,by rw [bu];exact(hc 1 (by omega)).trans rfl,?_⟩⟩
  unfold Ph
  cases hy:y.id with
  |none =>
   rw [hy]at hf
   exact cj rfl ⟨D.ho.length-(i+1),by omega,i+1,iZ,rfl,rfl,by rw [hf];rfl,by rw [bU (by omega) (by omega)];rfl,rfl⟩
  |some j =>
   rw [hy]at hf
   have hf:yY (D.ho.take (i+1))=yY (D.ho.take i)+1:=hf
   exact cr (decide_eq_true (mw j)) ⟨D.ho.length-(i+1),by omega,i+1,iZ,rfl,rfl,by rw [hf,bU (by omega) (by omega)];omega,by rw [bU (by omega) (by omega)];rfl,rfl⟩
 obtain rfl:i=D.ho.length:=by omega
 rw [dE]
 refine Mv (fun m s0 s3 s6 g=>∃i:Nat,i≤D.W.gy.length∧m=D.W.gy.length-i∧some (ad pb)=s0∧s3=((zZ D.vw+yY D.ho+yZ (D.W.gy.take i):Nat):Int)∧s6=(i:Int)∧h=g) D.W.gy.length ⟨0,cP _,rfl,rfl,rfl,rfl,rfl⟩ ?_
 rintro m s0 s3 s6 g0 g ⟨i,hi,rfl,rfl,rfl,rfl,rfl⟩
 have lt:yZ (D.W.gy.take i)≤200000:=by
  have:yZ (D.W.gy.take i)≤(D.W.gy.take i).length:=dT _ _
  rw [dm]at this
  omega
 unfold Pd
 refine bw ⟨_,(x.m.cl 1).trans rfl,bw ⟨D.W.bs,(x.m.wm.cl 3).trans rfl,ca (fun fE=>?_) fun o5=>?_⟩⟩
 ·have iZ:i<D.W.gy.length:=by omega
  have hv:D.W.gy[i]?=some (D.W.gy[i]'iZ):=br iZ
  generalize D.W.gy[i]'iZ=z at hv
  obtain⟨b,_,ha,hc⟩:=x.m.wm.bat hv
  have hf:yZ (D.W.gy.take (i+1))=yZ (D.W.gy.take i)+(if decide (0<z)then 1 else 0):=Ci hv
  refine bw ⟨_,(x.m.cl 1).trans rfl,bw ⟨D.W.bs,(x.m.wm.cl 3).trans rfl,(by omega),cW ha ⟨_,by rw [bu,cQ];exact hc,?_⟩⟩⟩
  unfold Pg
  refine ca (fun hp=>?_) fun hp=>?_
  ·rw [decide_eq_true (by omega:0<z)]at hf
   have hf:yZ (D.W.gy.take (i+1))=yZ (D.W.gy.take i)+1:=hf
   exact⟨D.W.gy.length-(i+1),by omega,i+1,iZ,rfl,rfl,by rw [hf,bU (by omega) (by omega)];omega,by rw [bU (by omega) (by omega)];rfl,rfl⟩
  ·rw [decide_eq_false (by omega:¬0<z)]at hf
   have hf:yZ (D.W.gy.take (i+1))=yZ (D.W.gy.take i):=hf
   exact⟨D.W.gy.length-(i+1),by omega,i+1,iZ,rfl,rfl,by rw [hf],by rw [bU (by omega) (by omega)];rfl,rfl⟩
 ·obtain rfl:i=D.W.gy.length:=by omega
  rw [dE,mL]
  exact hR
end
def alP:Mem:=⟨fun _=>none,fun _=>[]⟩
theorem aqJ(h:Hp):Sep h alP:=⟨fun _ _ e=>(nomatch e),fun _ _ _ e=>(nomatch e)⟩
section
variable {h h':Hp} {R:RP}
theorem phn {i:Int}(jz:¬(128≤i∧i≤1048576)→R (vt #[vp none,vi 30]) h)
  (mD:∀h' q',128≤i∧i≤1048576→Gs h' q' (RS.new i.toNat) [⟨0,[],[]⟩]→bY N h h'→(∀b,q'.bR b≠.out→h.size≤b)→R (vt #[vp (sa q'.hb),vi 0]) h'):bq PG 57 #[vi i] h R :=
 abh jz fun h' hb bR G hn rp fr k=>mD h' ⟨hb,bR,G,[]⟩ hn ⟨⟨rp,RS.aaY (by omega) (by omega)⟩,⟨rfl,fun id iA=>by unfold RS.da RS.new at iA;simp at iA⟩⟩ k fr
theorem agT {i:Int}(tz:eM h BF (Nt.map fun n=>.int .u8 (n:Nat))) (jz:¬(128≤i∧i≤1048576)→R (vt #[vp none,vb true]) h)
  (mD:∀h' pb D,Pl h' pb D 0→D.hB=h→R (vt #[vp (sa pb),vb true]) h'):bq PG 54 #[vi i] h R:=by
 refine ab8 ?_
 unfold aod
 refine phn (fun hb=>⟨_,_,rfl,?_⟩) fun h1 q hi g k1 fr=>⟨_,_,rfl,?_⟩
 ·refine ca (fun fE=>?_) fun o5=>?_
  ·unfold Mg
   exact cr rfl (cr rfl (jz hb))
  ·unfold Mg
   rw [decide_eq_true (by omega:i>(1048576:Int))]
   exact cr rfl (cr rfl (jz hb))
 ·refine cj (decide_eq_false (by omega)) ?_
  unfold Mg
  refine cj (decide_eq_false (by omega)) (cj rfl ?_)
  unfold Xe
  refine cj rfl ⟨(by omega),by omega,by omega,dh fun h2 e2=>dh fun h3 e3=>dh fun h4 e4=>?_⟩
  obtain⟨s2,c2⟩:=(aqJ h1).push 2 (ja #[vi 0,vu 0] ((1:Int).toNat*2)) 230
  rw [←e2]at s2 c2
  obtain⟨s3,c3⟩:=s2.push 1 #[vi i,.slice (some (nb h1)) ((1:Int).toNat) ((1:Int).toNat),.slice none 0 0,.slice none 0 0] 166
  rw [←e3]at s3 c3
  obtain⟨s4,c4⟩:=s3.push 0 #[vp (sa q.hb),vp (some (nb h2)),.slice none 0 0,.slice none 0 0,.slice none 0 0] 170
  rw [←e4]at s4 c4
  have kk:bY N h1 h4:=by
   rw [e4,e3,e2]
   exact(cF _ _ _).trans ((cF _ _ _).trans (cF _ _ _))
  have z2:h2.size=h1.size+1:=by rw [e2];simp
  have z3:h3.size=h1.size+2:=by rw [e3,iH,z2]
  clear e2 e3 e4 c2 c3 c4
  obtain⟨L,hL⟩:∃L:Nat,i=(L:Int):=⟨i.toNat,(fj (by omega)).symm⟩
  subst hL
  rw [bu]at g
  have zr:(ja #[vi 0,vu 0] ((1:Int).toNat*2)).toList=[wv 0,uv 0]:=by
   show (ja #[vi 0,vu 0] 2).toList=_
   unfold ja
   rw [Array.toList_map,Array.toList_range]
   rfl
  generalize hM:((alP.jR 2 (some h1.size) _).jR 1 (some h2.size) _).jR 0 (some h3.size) _=M at s4
  have m0:M.loc 0=some h3.size∧M.fM 0=[vp (sa q.hb),vp (sa h2.size),.slice none 0 0,.slice none 0 0,.slice none 0 0]:=by rw [←hM];exact⟨rfl,rfl⟩
  have m1:M.loc 1=some h2.size∧M.fM 1=[wv L,.slice (sa h1.size) 1 1,.slice none 0 0,.slice none 0 0]:=by rw [←hM];exact⟨rfl,rfl⟩
  have m2:M.loc 2=some h1.size∧M.fM 2=[wv 0,uv 0]:=by rw [←hM];exact⟨rfl,zr⟩
  have mo:∀y,3≤y→M.loc y=none:=fun y hy=>by
   rw [←hM,Mem.fR _ _ _ (by omega),Mem.fR _ _ _ (by omega),Mem.fR _ _ _ (by omega)];rfl
  clear hM
  have own:∀b,M.own b→h1.size≤b:=fun b ⟨y,hy⟩=>by
   by_cases hy3:3≤y
   ·rw [mo y hy3]at hy;cases hy
   ·have:y=0∨y=1∨y=2:=by omega
    rcases this with rfl|rfl|rfl
    ·rw [m0.1]at hy;have:=bt hy;omega
    ·rw [m1.1]at hy;have:=bt hy;omega
    ·rw [m2.1]at hy;have:=bt hy;omega
  have VL:∀(sz y:Nat),3≤y→kO sz M y ⟨none,0,0⟩ []:=fun sz y hy=>⟨by simp,fun _=>⟨rfl,rfl,rfl⟩,fun b e=>by rw [mo y hy]at e;cases e⟩
  have g4:=g.cI kk
  have tzo:q.bR BF=.out:=iq fun hn=>by have:=fr _ hn;have:=eE tz;omega
  have tz4:eM h4 BF (Nt.map fun n=>.int .u8 (n:Nat)):=bF kk (bF k1 tz _root_.id) _root_.id
  have rts:(RS.new L).bC=[]:=rfl
  refine mD h4 h3.size ⟨h,⟨L,[(0,0)],[],[],⟨some (ad h1.size),1,1⟩,⟨none,0,0⟩,⟨none,0,0⟩⟩,q,RS.new L,[⟨0,[],[]⟩],[0],[],[],M,h2.size,[],[],[],⟨none,0,0⟩,⟨none,0,0⟩,⟨none,0,0⟩⟩ ⟨⟨m0.1,m0.2,⟨s4,m1.1,m1.2,⟨rfl,fun e=>?_,fun b e=>?_⟩,VL 1 3 (by omega),VL 1 4 (by omega),fun i t ht=>by simp at ht⟩,VL 3 5 (by omega),VL 2 6 (by omega),VL 1 7 (by omega),fun b hb=>⟨g.st.fr (own b hb),fun e=>?_,nofun⟩,nofun,⟨gQ,nofun⟩,⟨k1.trans kk,fr,fun b hb=>bP k1.1 (own b hb),nofun⟩⟩,⟨g4,⟨tz4,tzo⟩,nofun⟩,⟨⟨rfl,rfl,rfl,rfl,fun j o z h1 ho=>?_,by simp,fun j t T ht=>by simp at ht,fun j k t t' T T' ht=>by simp at ht,fun r h0=>⟨fun h=>(by rw [rts]at h;cases h),?_⟩,nofun,gQ,nofun⟩,⟨⟨fun p r=>⟨fun h=>(by rw [rts]at h;cases p<;>cases h),fun h=>nomatch h⟩,gQ⟩,nofun,nofun,⟨rfl,nofun⟩,fun j t ht=>by simp at ht⟩,⟨by show L≤_;omega,bH _,by show 1≤1000000;omega,fun v hv=>by rw [bM.1 hv];exact cP _,cP _,cP _,nofun,nofun⟩,rfl,bH _,by rw [rts];exact cP _,⟨bH _,bH _,bH _,bH _,bH _⟩⟩⟩ rfl
  ·rw [m2.1]at e;cases e
  ·rw [m2.1]at e
   obtain rfl:=bt e
   exact⟨rfl,bH _,[],by rw [m2.2];rfl,rfl⟩
  ·have:=own b hb
   have:=eE (bF k1 tz _root_.id)
   omega
  ·have:=(bp.1 ho).1
   simp at this
   omega
  ·rintro(⟨j,t,T,ht,_⟩|⟨v,hv,_⟩)
   ·simp at ht
   ·cases hv
end
theorem L4(s:RS)(e:Nat):(s.tH e).cZ=s.cZ∧(s.tH e).dI=s.dI:=by
 have hb:∀n,(s.eY n).cZ=s.cZ∧(s.eY n).dI=s.dI:=fun n=>by
  unfold RS.eY
  first|exact⟨rfl,rfl⟩ | (split<;>exact⟨rfl,rfl⟩)
 unfold RS.tH
 repeat' split
 all_goals first|exact⟨rfl,rfl⟩|exact hb _
section
variable {h h':Hp} {pb k:Nat} {D:PL} {R:RP}
theorem KV(x:Pl h pb D k)(hR:∀h' q1 s1,Pl h' pb (D.prog q1 s1 D.nd) (k+1)→Fr h D h' (D.prog q1 s1 D.nd)→s1=D.s.collect→R (vt #[]) h'):bq PG 32 #[vp (sa D.q.hb)] h R :=
 SH x.r.g fun h' q1 s1 g er lm ex e=>hR h' q1 s1 (x.prog g ex (er▸x.w.pg) (er▸wQ.refl _) lm (bH _) (by rw [er];omega)) (Fr.SO ex) e
theorem aaL(x:Pl h pb D k){z:Int}(hR:∀h' q1 s1 e,Pl h' pb (D.prog q1 s1 D.nd) (k+1)→Fr h D h' (D.prog q1 s1 D.nd)→R (vi e) h'):bq PG 42 #[vp (sa D.q.hb),vi z] h R :=
 Vt x.r.g fun h' q1 s1 e g er lm ex=>hR h' q1 s1 e (x.prog g ex (er▸x.w.pg) (er▸wQ.refl _) lm (bH _) (by rw [er];omega)) (Fr.SO ex)
theorem Pl.UQ(x:Pl h pb D k):D.s.collect.cZ=D.W.S 0∧D.s.collect.dI=D.W.B 0∧D.s.collect.xB=(zZ D.vw+(yY D.ho+yZ D.W.gy):Nat):=by
 obtain⟨dN,l⟩:=x.w.pg.aa3 x.w.wv.v1
 obtain⟨w1,w2⟩:=x.w.pg.Iw x.w.wv.v1 l
 obtain⟨e1,e2⟩:=RS.QY x.r.g.v x.r.g.sh l.CV l.S4
 refine⟨?_,?_,?_⟩
 ·rw [←w1,←e1]
  exact(L4 D.s.ci 0).1
 ·rw [←w2,←e2]
  exact(L4 D.s.ci 0).2
 ·rw [←x.w.hc.len x.w.pg.ll]
  unfold RS.xB rF
  rw [RS.yg.2]
end
section
variable {h h1 h' h2 g:Hp} {pb k i n:Nat} {D D':PL} {q1:HQ} {s1:RS} {nd:List di} {R:RP} {v:VD} {T:TD} {t:DT} {vo:LN} {o:Kd} {W:DW} {key mN:LN}
theorem rx.fr {a:Sl}(x:rx h D a key)(f:Fr h D h' D')(hv:∀v∈D'.vw,v∈D.vw∨h.size≤v.tb):rx h' D' a key:=by
 refine⟨tU f.k x.rd fun p hp hn=>?_,x.n,x.b8,x.nil,x.len,fun p hp hk=>?_⟩
 ·obtain⟨a1,a2,a3,_⟩:=x.src p hp fun e=>hn (by rw [e];rfl)
  exact⟨a1,fun z=>z.elim (fun z=>z a2) a3⟩
 ·obtain⟨a1,a2,a3,a4⟩:=x.src p hp hk
  refine⟨bZ a1 f.k.1,f.r _ a1 a2,fun z=>(f.o _ z).elim a3 fun z=>by omega,fun v hv' e=>?_⟩
  rcases hv v hv' with h|h
  ·exact a4 v h e
  ·omega
theorem Pl.afZ(x:Pl h pb D k)(ht:D.W.de[i]?=some t)(hl:t.ib=true){e:DE}(he:e∈t.es):e.val∉lY D.W.gy D.lv:=fun hw=>x.w.pg.bs _ hw t (bx ht) hl e he rfl
theorem Uy(x:Pl h pb D k)(hk:k≤200000)(iS:D.vw≠[])(ov:ZU o)(hu:-9223372036854775808≤o.u∧o.u<9223372036854775808)(kk:rx h D o.mN mN)
  (wX:∀h' D',Pl h' pb D' (k+1)→D'.hB=D.hB→Fr h D h' D'→D'.vw=D.vw→D'.s.pW o.c=false→R (vt #[uv o.c,vi (-1),vb true]) h')
  (vV:∀h' D' id val,Pl h' pb D' (k+1)→D'.hB=D.hB→Fr h D h' D'→D'.vw=D.vw→(id=0∨D'.s.da id)→D'.vo[val]?=some id→val∉lY D'.W.gy D'.lv→R (vt #[uv (D'.s.fk id),vi (val:Nat),vb true]) h') :
  bq PG 148 #[vp (sa pb),.agg o.cells.toArray] h R:=by
 have h0:∀h',bY N h h'→R (vt #[uv 0,vi 0,vb true]) h':=fun h' k'=>by
  have x':=x.cI k'
  have:=vV h' D 0 0 ⟨x'.m,x'.r,x'.w.mono (by omega)⟩ rfl (Fr.ofN k') rfl (.inl rfl) x.w.pg.v0 fun hw=>by have:=(x.w.pg.PX hw).1;omega
  rw [RS.iQ]at this
  exact this
 refine Ya (mq:=o.uE) (mn:=o.t) (nF:=o.u) (wD:=o.key) (wC:=o.mN) (wB:=o.n) (wA:=o.w) (wx:=(o.c:Int)) (ww:=(o.a:Int)) (wu:=(o.b:Int)) ?_
 unfold ae7
 refine dh fun h1 e1=>?_
 have k1:bY N h h1:=e1▸cF _ _ _
 have r5:eM h1 h.size o.cells:=by
  rw [e1]
  exact du h #[vi o.uE,vi o.t,vi o.u,.slice o.key.a o.key.n o.key.c,.slice o.mN.a o.mN.n o.mN.c,vi o.n,vi o.w,uv o.c,uv o.a,uv o.b] 89
 clear e1
 have x1:=x.cI k1
 have kk1:=kk.cI k1
 have vn:=x1.m.vn
 have bd:=x.w.bd
 rw [show nb h=ad h.size from rfl,show nb h1=ad h1.size from rfl]
 refine⟨o.w,ia r5 rfl,fY (fun _=>h0 h1 k1) fun _=>fY (fun _=>?_) fun _=>fY (fun _=>?_) fun _=>?_⟩
 ·refine⟨o.n,ia r5 rfl,?_⟩
  refine B4 x1 hk ov.n (fun h' q1 s1 p f=>⟨_,_,_,rfl,?_⟩) fun h' D' id zz p hB f hh AI hv htt hb hl Ag _ _ _ h2=>⟨_,_,_,rfl,?_⟩
  ·have:=vV h' (D.prog q1 s1 D.nd) 0 0 p rfl ((Fr.ofN k1).trans f) rfl (.inl rfl) x.w.pg.v0 fun hw=>by have:=(x.w.pg.PX hw).1;omega
   rw [RS.iQ]at this
   exact this
  ·refine vV h' D' id D.W.eX.length p hB ((Fr.ofN k1).trans f) Ag (.inr hh) (by rw [AI,←x.w.pg.mA,bN (bH _),dD];rfl) ?_
   rw [hb,hl]
   exact fun hw=>by have:=(x.w.pg.PX hw).2;omega
 ·have DG:0<D.vw.length:=List.length_pos_iff.2 iS
  have m1:=jk o.u (b:=(D.vw.length:Int)) (by omega)
  have m2:=gI o.u (b:=(D.vw.length:Int)) (by omega)
  obtain⟨j,hj⟩:∃j:Nat,o.u%(D.vw.length:Int)=(j:Int):=⟨(o.u%(D.vw.length:Int)).toNat,(fj m1).symm⟩
  have nK:j<D.vw.length:=by omega
  have xL:D.vw[j]?=some (D.vw[j]'nK):=br nK
  generalize D.vw[j]'nK=u at xL
  have LA:u∈D.vw:=bx xL
  obtain⟨b,_,hb,hc⟩:=x1.m.Qd xL
  refine bw ⟨D.rZ,(x1.m.cl 2).trans rfl,o.u,ia r5 rfl,bw ⟨D.rZ,(x1.m.cl 2).trans rfl,(j:Int),?_,(by omega),?_⟩⟩
  ·rw [vn]
   refine rD DG (by omega) hu ?_
   rw [hj];exact⟨rfl,rfl⟩
  rw [hb]
  refine bw ⟨some (ad u.tb),by rw [bu];exact(hc 0 (by omega)).trans rfl,(u.id:Int),by rw [bu];exact(hc 1 (by omega)).trans rfl,u.jp,by rw [bu];exact(hc 2 (by omega)).trans rfl,dh fun h4 e4=>?_⟩
  have k4:bY N h1 h4:=e4▸cF _ _ _
  have r4:eM h4 h1.size [vp none,vi 0,vb false]:=e4▸du h1 #[vp none,vi 0,vb false] 172
  clear e4
  have x4:=x1.cI k4
  have r54:=bF k4 r5 _root_.id
  obtain⟨b2,_,vW,xO⟩:=x4.m.Qd xL
  rw [hb]at vW
  obtain rfl:b=b2:=by injection vW with e;injection e
  refine⟨⟨some (ad u.tb),by rw [bu];exact(xO 0 (by omega)).trans rfl,(u.id:Int),by rw [bu];exact(xO 1 (by omega)).trans rfl,u.jp,by rw [bu];exact(xO 2 (by omega)).trans rfl,rfl⟩,?_,⟨D.rZ,(x4.m.cl 2).trans rfl,by rw [hb]⟩,⟨o.u,ia r54 rfl,rfl⟩,⟨D.rZ,(x4.m.cl 2).trans rfl,by rw [hb]⟩,?_⟩
  ·rw [vn]
   refine rD DG (by omega) hu ?_
   rw [hj];exact⟨rfl,rfl⟩
  refine eu r4 (i:=0) rfl (by simp) fun h5 r6 k5=>eu r6 (i:=1) (cm _ _) (by simp) fun h6 r7 k6=>eu r7 (i:=2) (cm _ _) (by simp) fun h7 r8 k7=>?_
  have GU:bY N h1 h7:=(cL k4 ((k5.trans k6).trans k7) fun b e=>by rw [e];exact bH _).mono fun _ _ z=>z.elim
  have r8:eM h7 h1.size (mB u):=r8
  have x7:=x1.cI GU
  have T8:=kk1.cI GU
  have Dz:=bF GU r5 _root_.id
  have k07:=k1.trans GU
  refine⟨u.jp,ia r8 rfl,fY (fun _=>h0 h7 k07) fun HT=>?_⟩
  have HT:u.jp=true:=by cases h:u.jp with|true=>rfl|false=>rw [h]at HT;cases HT
  refine⟨_,(bS r8 0).trans rfl,o.mN,ia Dz rfl,?_⟩
  refine Qf T8.nil T8.rd T8.n (by have:=kk.len;omega) fun c g Q9 hcr GZ k8=>⟨c,rfl,⟨_,(bS (bF k8 r8 _root_.id) 0).trans rfl,rfl⟩,?_⟩
  have x8:=x7.cI k8
  have kk8:=T8.cI k8
  have r58:=bF k8 Dz _root_.id
  have r88:=bF k8 r8 _root_.id
  have k08:=k07.trans k8
  obtain⟨t,T,ht,hT,hl,r,d,op⟩:=x8.jp LA HT
  obtain⟨tv,_⟩:=x8.w.wv.es t (bx ht)
  obtain⟨a1,a2⟩:=r.Bz tv (key:=mN)
  have nA:∀(g':Hp) (w0:Nat),bY N g g'→(iB t.es (fU t.df mN,mN)=false→w0=0)→(∀e,iB t.es (fU t.df mN,mN)=true→t.es[j0 t.es (fU t.df mN,mN)]?=some e→∃id,D.vo[e.val]?=some id∧(id=0∨D.s.da id)∧w0=D.s.fk id) →
    bE (sa pb) fun p63=>∃t65:OA,cell g' (p63.add 1)=some (vp t65)∧bE t65 fun p66=>∃t68:Sl,cell g' (p66.add 2)=some (.slice t68.a t68.n t68.c)∧∃t70:Int,cell g' ((ad h1.size).add 1)=some (vi t70)∧(0≤t70∧t70<(t68.n:Int))∧bE t68.a fun p71=>∃t72:OA,cell g' (p71.add (t70.toNat*1))=some (vp t72)∧∃t76:Sl,cell g' ((ad h.size).add 4)=some (.slice t76.a t76.n t76.c)∧bq PG 150 #[vp t72,.slice t76.a t76.n t76.c] g' fun r Dq=>∃Qk:Int,∃ade:Bool,r=vt #[vi Qk,vb ade]∧bX (!ade) (R ((vt #[vu 0,vi 0,vb ((w0:Int)==(0:Int))]:Value)) Dq) (bE t72 fun p86=>∃IA:Sl,cell Dq (p86.add 1)=some (.slice IA.a IA.n IA.c)∧(0≤Qk∧Qk<(IA.n:Int))∧bE IA.a fun p90=>∃t92:Int,cell Dq ((p90.add (Qk.toNat*5)).add 2)=some (vi t92)∧R (vt #[vu (w0:Int),vi t92,vb true]:Value) Dq):=fun g' w0 k9 wX xK=>by
   have x9:=x8.cI k9
   have kk9:=kk8.cI k9
   have k09:=k08.trans k9
   obtain⟨b,ha,hc⟩:=x9.m.wm.tat ht
   have tn:=x9.m.wm.tn
   have tl:=(bp.1 ht).1
   have xt:=x9.m.wm.tm u.id t ht
   refine bw ⟨_,(x9.m.cl 1).trans rfl,bw ⟨D.W.ts,(x9.m.wm.cl 2).trans rfl,_,ia (bF k9 r88 _root_.id) rfl,(by omega),cW ha ⟨_,by rw [bu,cQ];exact hc,o.mN,ia (bF k9 r58 _root_.id) rfl,?_⟩⟩⟩
   refine RO xt tv x9.m.wm.sp kk9.rd kk9.n kk.b8 kk.len fun g5 k5=>⟨_,_,rfl,?_⟩
   have x5:=x9.cI k5
   have ZX:=x5.m.wm.tm u.id t ht
   have xn:=ZX.n
   cases rA:iB t.es (fU t.df mN,mN)with
   |false =>
    obtain rfl:=wX rA
    exact cr rfl (h0 g5 (k09.trans k5))
   |true =>
    obtain⟨e,he,ek⟩:=lj rA
    obtain⟨id,AI,hh,rfl⟩:=xK e rA he
    have za:=(bp.1 he).1
    obtain⟨b',_,AK,tG⟩:=ZX.at x5.m.wm.sp he
    have tln:=tv.ln
    refine cj rfl (bw ⟨t.sl,(ZX.cl x5.m.wm.sp 1).trans rfl,(by omega),cW AK ⟨_,by rw [bu];exact(tG 2 (by omega)).trans rfl,?_⟩⟩)
    exact vV g5 D id e.val ⟨x5.m,x5.r,x5.w.mono (by omega)⟩ rfl (Fr.ofN (k09.trans k5)) rfl hh AI (x5.afZ ht hl (bx he))
  refine ac7 op r.k hcr Q9 kk.b8 kk.len (fun hf g' k4=>⟨_,_,_,_,rfl,nA g' 0 k4 (fun _=>rfl) fun e rA he=>?_⟩) fun y g' hy k4=>⟨_,_,_,_,rfl,nA g' (D.s.fk y.r) k4 (fun rA=>?_) fun e rA he=>?_⟩
  ·obtain⟨e',OB,ek⟩:=lj rA
   rw [he]at OB
   obtain rfl:=bt OB
   obtain⟨y,hy,_⟩:=a2 e he ek
   rw [hf]at hy;cases hy
  ·rw [a1 rA]at hy;cases hy
  ·obtain⟨e',OB,ek⟩:=lj rA
   rw [he]at OB
   obtain rfl:=bt OB
   obtain⟨y',DF,eq⟩:=a2 e he ek
   rw [hy]at DF
   obtain rfl:=bt DF
   have BG:=r.mA e (bx he)
   have er:D.vo.getD e.val 0=y.r:=congrArg (fun z:Sb=>z.2.2.1) eq
   have hg:D.vo[e.val]?=some (D.vo[e.val]'BG):=br BG
   rw [jq hg]at er
   exact⟨y.r,by rw [hg,er],op.Kw (pz hy).1,rfl⟩
 ·have hm1:=x1.w.mono (gV k)
  refine bw ⟨_,x1.m.BH,(o.c:Int),ia r5 rfl,qr x1.r.g.v x1.r.g.st.rp ov.c ⟨_,_,_,_,rfl,(o.c:Int),ia r5 rfl,?_⟩⟩
  have hz:Ck (ad h.size) true h1 R:=by unfold Ck;exact cr rfl (h0 h1 k1)
  refine fY (fun _=>hz) fun hc0=>?_
  refine(?_:Ck (ad h.size) _ h1 R)
  unfold Ck
  refine fY (fun _=>h0 h1 k1) fun he=>⟨(o.c:Int),ia r5 rfl,?_⟩
  have hc0:o.c≠0:=fun e=>by rw [e]at hc0;cases hc0
  have hg:D.s.pW o.c=false:=by
   unfold RS.pW
   refine decide_eq_false fun hh=>?_
   have hi:=hh.resolve_left hc0
   unfold RS.uW at he
   rw [if_neg hi]at he
   cases he
  exact wX h1 D ⟨x1.m,x1.r,hm1⟩ rfl (Fr.ofN k1) rfl hg
end
section
variable {h h1 h' h2 g:Hp} {pb k n:Nat} {D D':PL} {q1:HQ} {s1:RS} {nd kq:List di} {R:RP} {v:VD} {T:TD} {t t1 t2:DT} {vo:LN} {o:Kd} {W:DW} {Y:Mem} {wb:Nat} {key mN:LN}
theorem adG {b4 b5:Nat}(m:PM h pb D)(r4:eM h b4 (mB v)) (r5:eM h b5 o.cells) (ht:D.W.de[v.id]?=some t) {val:Nat} {z:Int} (hz:z=(val:Int)) {b:Bool} {e:Int}
  (hK:∀R2:RP,(∀h5,R (vb true) h5→R2 (vt #[vb b,vi e]) h5)→bq PG 149 #[vp (sa D.wb),vp (sa t.jY),.slice o.key.a o.key.n o.key.c,vi (val:Nat),uv o.a,uv o.b] h R2) :
  FF (sa pb) (ad b4) (ad b5) z b e h R:=by
 subst hz
 obtain⟨bb,ha,hc⟩:=m.wm.tat ht
 have tn:=m.wm.tn
 have tl:=(bp.1 ht).1
 unfold FF
 refine bw ⟨_,(m.cl 1).trans rfl,bw ⟨_,(m.cl 1).trans rfl,bw ⟨D.W.ts,(m.wm.cl 2).trans rfl,(v.id:Int),ia r4 rfl,(by omega),cW ha ⟨_,by rw [bu,cQ];exact hc,o.key,ia r5 rfl,(o.a:Int),ia r5 rfl,(o.b:Int),ia r5 rfl,?_⟩⟩⟩⟩
 refine hK _ fun h5 hr=>⟨_,_,rfl,cr (beq_self_eq_true _) ?_⟩
 rw [beq_self_eq_true]
 exact hr
theorem aaG(x:Pl h pb D k)(hk:k<200000)(hv:v∈D.vw)(ov:ZU o)(hu:-9223372036854775808≤o.u∧o.u<9223372036854775808)(kk:rx h D o.key key)(kt:rx h D o.mN mN)
  (hR:∀h' D',Pl h' pb D' (k+2)→D'.hB=D.hB→R (vb true) h'):bq PG 101 #[vp (sa pb),.agg (mB v).toArray,.agg o.cells.toArray] h R:=by
 refine YM (mq:=some (ad v.tb)) (mn:=(v.id:Int)) (nF:=v.jp) (AF:=o.uE) (AE:=o.t) (AD:=o.u) (AC:=o.key) (AB:=o.mN) (AA:=o.n) (Az:=o.w) (Ay:=(o.c:Int)) (Ax:=(o.a:Int)) (Aw:=(o.b:Int)) ?_
 unfold afB
 refine dh fun h1 e1=>dh fun h2 e2=>?_
 have k1:bY N h h1:=e1▸cF _ _ _
 have k2:bY N h1 h2:=e2▸cF _ _ _
 have r4:eM h1 h.size (mB v):=e1▸du h #[vp (sa v.tb),wv v.id,vb v.jp] 172
 have r5:eM h2 h1.size o.cells:=by
  rw [e2]
  exact du h1 #[vi o.uE,vi o.t,vi o.u,.slice o.key.a o.key.n o.key.c,.slice o.mN.a o.mN.n o.mN.c,vi o.n,vi o.w,uv o.c,uv o.a,uv o.b] 89
 clear e1 e2
 have ZH:=k1.trans k2
 have r4:=bF k2 r4 _root_.id
 have x2:=x.cI ZH
 have Kk:=kk.cI ZH
 have kt2:=kt.cI ZH
 have iS:D.vw≠[]:=fun e=>by rw [e]at hv;cases hv
 have ob4:D.q.bR h.size=.out∧¬D.Y.own h.size:=⟨x.r.g.st.fr (bH _),fun z=>by have:=x.m.wm.sp.zT z;omega⟩
 have ob5:D.q.bR h1.size=.out∧¬D.Y.own h1.size:=⟨x.r.g.st.fr k1.1,fun z=>by have:=x.m.wm.sp.zT z;have:=k1.1;omega⟩
 rw [show nb h=ad h.size from rfl,show nb h1=ad h1.size from rfl]
 refine⟨o.uE,(bS r5 0).trans rfl,fY (fun _=>?_) fun _=>?_⟩
 ·
  refine⟨_,(bS r4 0).trans rfl,o.key,ia r5 rfl,?_⟩
  refine Qf Kk.nil Kk.rd Kk.n (by have:=kk.len;omega) fun c g Q9 hcr GZ k3=>⟨c,rfl,⟨_,(bS (bF k3 r4 _root_.id) 0).trans rfl,rfl⟩,?_⟩
  have x3:=x2.cI k3
  have kk3:=Kk.cI k3
  have r43:=bF k3 r4 _root_.id
  have r53:=bF k3 r5 _root_.id
  cases ho:v.jp with
  |false =>
   refine Ix (x3.Em hv ho) ⟨_,rfl,v.jp,ia r43 rfl,cr (by rw [ho];rfl) (hR g D ⟨x3.m,x3.r,x3.w.mono (by omega)⟩ rfl)⟩
  |true =>
   obtain⟨t,T,ht,hT,hl,r,d,op⟩:=x3.jp hv ho
   refine arO x3 hv ho ht hcr Q9 kk.b8 kk.len (fun pp hp hkn=>⟨x2.r.g.st.fr (GZ pp hp).1,(GZ pp hp).2⟩) fun h4 q1 s1 kq e ex m4 K=>⟨_,rfl,v.jp,ia (bF ex.gK r43 fun z=>z ob4.1) rfl,cj (by rw [ho];rfl) ?_⟩
   obtain⟨bb,ha,hc⟩:=m4.wm.tat ht
   have tn:D.W.ts.n=D.W.de.length:=m4.wm.tn
   have tl:=(bp.1 ht).1
   refine bw ⟨_,(m4.cl 1).trans rfl,bw ⟨_,(m4.cl 1).trans rfl,bw ⟨D.W.ts,(m4.wm.cl 2).trans rfl,(v.id:Int),ia (bF ex.gK r43 fun z=>z ob4.1) rfl,⟨by omega,by show (v.id:Int)<(D.W.ts.n:Int);omega⟩,cW ha ⟨_,by rw [bu,cQ];exact hc,o.key,ia (bF ex.gK r53 fun z=>z ob5.1) rfl,?_⟩⟩⟩⟩
   refine K o.key _ (kk3.fr (Fr.SO (s1:=s1) (kq:=kq) ex) fun v hv=>.inl hv) fun h5 D5 P hB=>⟨_,rfl,?_⟩
   rw [beq_self_eq_true]
   exact hR h5 D5 ⟨P.m,P.r,P.w.mono (by omega)⟩ hB
 ·
  refine⟨_,(bS r5 0).trans rfl,_,ia r5 rfl,_,ia r5 rfl,o.key,ia r5 rfl,o.mN,ia r5 rfl,_,ia r5 rfl,_,ia r5 rfl,(o.c:Int),ia r5 rfl,(o.a:Int),ia r5 rfl,(o.b:Int),ia r5 rfl,?_⟩
  have qO:∀h6 D6 (w:Nat) (z:Int),Pl h6 pb D6 (k+1)→D6.hB=D.hB→Fr h2 D h6 D6→D6.vw=D.vw→((z=-1∧w<18446744073709551616∧D6.s.pW w=false)∨∃id val:Nat,z=val∧w=D6.s.fk id∧(id=0∨D6.s.da id)∧D6.vo[val]?=some id∧val∉lY D6.W.gy D6.lv) →
    ∃t60:OA,cell h6 (ad h.size)=some (vp t60)∧∃t62:Sl,cell h6 ((ad h1.size).add 3)=some (.slice t62.a t62.n t62.c)∧∃t66:Int,cell h6 ((ad h1.size).add 8)=some (vu t66)∧∃t68:Int,cell h6 ((ad h1.size).add 9)=some (vu t68)∧bq PG 59 #[.slice t62.a t62.n t62.c] h6 fun r h7=>∃t63:Sl,r=.slice t63.a t63.n t63.c∧(∃y0:Int,cell h7 ((ad h1.size).add 9)=some (vu y0)∧Next.value (vu y0)=Next.value (vu t68))∧(∃y0:Int,cell h7 ((ad h1.size).add 8)=some (vu y0)∧Next.value (vu y0)=Next.value (vu t66))∧(∃y0:OA,cell h7 (ad h.size)=some (vp y0)∧Next.value (vp y0)=Next.value (vp t60))∧bq PG 48 #[vp t60,.slice t63.a t63.n t63.c,vu (w:Int),vu t66,vu t68] h7 fun r h8=>∃Qm:Bool,∃Ql:Int,r=vt #[vb Qm,vi Ql]∧∃t73:Bool,cell h8 ((ad h.size).add 2)=some (vb t73)∧bX (!t73) (bX (!Qm) (R ((vb (Ql==(61:Int)):Value)) h8) (R (vb false:Value) h8)) (bX (decide (z<(0:Int))) (∃t85:Sl,cell h8 ((ad h1.size).add 3)=some (.slice t85.a t85.n t85.c)∧xX (sa pb) (ad h.size) (ad h1.size) z Qm Ql (decide (((t85.n:Int))≤(4096:Int))) h8 R) (xX (sa pb) (ad h.size) (ad h1.size) z Qm Ql false h8 R)):=fun h6 D6 w z x6 hB6 f6 amn hw=>by
   have r46:=f6.row r4 ob4.1 ob4.2
   have r56:=f6.row r5 ob5.1 ob5.2
   have kk6:=Kk.fr f6 fun v hv=>.inl (amn▸hv)
   have hv6:v∈D6.vw:=amn▸hv
   have o46:D6.q.bR h.size=.out:=f6.r _ (eE r4) ob4.1
   have o56:D6.q.bR h1.size=.out:=f6.r _ (eE r5) ob5.1
   refine⟨_,(bS r46 0).trans rfl,o.key,ia r56 rfl,(o.a:Int),ia r56 rfl,(o.b:Int),ia r56 rfl,?_⟩
   refine Qf kk6.nil kk6.rd kk6.n (by have:=kk.len;omega) fun c g Q9 hcr GZ k3=>?_
   have x7:=x6.cI k3
   have T8:=kk6.cI k3
   have r47:=bF k3 r46 _root_.id
   have Dz:=bF k3 r56 _root_.id
   refine⟨c,rfl,⟨_,ia Dz rfl,rfl⟩,⟨_,ia Dz rfl,rfl⟩,⟨_,(bS r47 0).trans rfl,rfl⟩,?_⟩
   have done:∀h' D',Pl h' pb D' (k+1)→D'.hB=D6.hB→R (vb true) h':=fun h' D' P e=>hR h' D' ⟨P.m,P.r,P.w.mono (by omega)⟩ (e.trans hB6)
   cases ho:v.jp with
   |false =>
    exact Sh (x7.Em hv6 ho) ⟨_,_,rfl,v.jp,ia r47 rfl,cr (by rw [ho];rfl) (cr rfl (done g D6 x7 rfl))⟩
   |true =>
    obtain⟨t,T,ht,hT,hl,r,d,op⟩:=x7.jp hv6 ho
    obtain⟨tv,Fi,b1,b2,b3,b4,b5⟩:=x7.w.wv.es t (bx ht)
    have vF:=r.sz
    have hol:=op.len
    have rl:=x7.w.rl
    have tln:=tv.ln
    have v1:=x7.w.wv.v1
    by_cases zb:key.length≤4096
    ·rcases hw with⟨rfl,aml,hg⟩|⟨id,val,rfl,rfl,iA,AI,hna⟩
     ·refine UC x7.r.g op.l op.pos Q9 zb (by omega) aml hg fun h8 q8 g8 ex=>⟨_,_,rfl,v.jp,ia (bF ex.gK r47 fun z=>z o46) rfl,cj (by rw [ho];rfl) (cr rfl ⟨o.key,ia (bF ex.gK Dz fun z=>z o56) rfl,?_⟩)⟩
      rw [decide_eq_true (by have:=kk.n;omega)]
      unfold xX
      refine cr rfl (cr rfl (hR h8 (D6.prog q8 D6.s D6.nd) ?_ hB6))
      exact x7.prog g8 ex x7.w.pg (wQ.refl _) rfl (bH _) (by omega)
     ·refine arI x7 (by omega) hv6 ho ht (c:=c) ⟨hcr,Q9,kk.b8,fun pp hp hkn=>⟨x6.r.g.st.fr (GZ pp hp).1,(GZ pp hp).2⟩⟩ zb iA AI hna ov.a ov.b fun h8 q8 s8 nd8 b e ex m8 K=>⟨_,_,rfl,v.jp,ia (bF ex.gK r47 fun z=>z o46) rfl,cj (by rw [ho];rfl) (cj (decide_eq_false (by omega)) ?_)⟩
      unfold xX
      refine cj rfl (cj (decide_eq_false (by omega)) ?_)
      refine adG m8 (bF ex.gK r47 fun z=>z o46) (bF ex.gK Dz fun z=>z o56) ht rfl fun R2 h2=>?_
      exact K o.key R2 (T8.fr (Fr.SO (s1:=s8) (kq:=nd8) ex) fun v hv=>.inl hv) fun h5 D5 P e5=>h2 h5 (hR h5 D5 P (e5.trans hB6))
    ·refine Si op.l op.pos Q9 (by omega) ⟨_,_,rfl,v.jp,ia r47 rfl,cj (by rw [ho];rfl) ?_⟩
     have nA:∀(val:Nat) (z:Int),z=val→val<D6.W.eX.length→FF (sa pb) (ad h.size) (ad h1.size) z false 62 g R:=fun val z hz wV=>by
      refine adG x7.m r47 Dz ht hz fun R2 h2=>?_
      refine acF x7.m.wm x7.w.wv ht T8.rd T8.n kk.b8 T8.rB wV (by omega) (by omega) (fun _=>h2 g (done g D6 x7 rfl)) (fun g Y' t1 e0 t2 _ h=>absurd h zb) (fun g Y' t1 _ h=>absurd h zb) fun g Y' t1 cc a' t2 t3 _ _ h=>absurd h zb
     rcases hw with⟨rfl,aml,hg⟩|⟨id,val,rfl,rfl,iA,AI,hna⟩
     ·refine cr rfl ⟨o.key,ia Dz rfl,?_⟩
      rw [decide_eq_false (by have:=kk.n;omega)]
      unfold xX
      exact cj rfl (cr rfl (nA 0 0 rfl v1))
     ·refine cj (decide_eq_false (by omega)) ?_
      unfold xX
      refine cj rfl (cj (decide_eq_false (by omega)) (nA val _ rfl ?_))
      rw [←x7.w.pg.mA]
      exact(bp.1 AI).1
  exact Uy x2 (by omega) iS ov hu kt2 (fun h6 D6 P hB f Ag hg=>⟨_,_,_,rfl,cj rfl (qO h6 D6 _ _ P hB f Ag (.inl ⟨rfl,ov.c,hg⟩))⟩) fun h6 D6 id val P hB f Ag iA AI hna=>⟨_,_,_,rfl,cj rfl (qO h6 D6 _ _ P hB f Ag (.inr ⟨id,val,rfl,rfl,iA,AI,hna⟩))⟩
end
structure PY (D:PL) (tb:Nat):Prop where
 y:∀b,D.Y.own b→tb≠b
 k:∀t∈D.W.de,∀e∈t.es,tb≠e.c
 v:∀w∈D.vw,w.tb≠tb
 z:tb≠BF
 b:D.hB.size≤tb
def P3(h:Hp)(q:HQ)(vw:List VD):Prop:=∀b,h.size≤b→q.bR b=.out∧b≠BF∧∀v∈vw,v.tb≠b
section
variable {h h1 h' h2 h3 g:Hp} {pb k i n tb hn:Nat} {D D':PL} {q1:HQ} {s1:RS} {nd:List di} {R:RP} {v:VD} {T:TD} {t t':DT} {o:Kd} {Y' Y2:Mem} {W:DW} {Y:Mem} {wb:Nat} {x:zg} {vw:List VD}
theorem PY.of(m:PM h pb D)(r:PR h D)(hl:h.size≤tb):PY D tb :=
 ⟨fun b hb e=>by have:=m.wm.sp.zT hb;omega,fun t ht e he ec=>by
  obtain⟨i,hi⟩:=bT.1 ht
  have:=eE ((m.wm.tm i t hi).ks e he).1
  omega,fun w hw e=>by have:=eE (r.mA w hw).1.row;omega,fun e=>by have:=eE r.tz.row;omega,bP m.bs.k.1 hl⟩
theorem PR.Tn(r:PR h D):P3 h D.q D.vw:=fun b hb =>
 ⟨r.g.st.fr hb,fun e=>by have:=eE r.tz.row;omega,fun v hv e=>by have:=eE (r.mA v hv).1.row;omega⟩
theorem WM.rB(x:WM h Y wb W)(c:ui h Y h' Y')(s:Sep h' Y')(off:∀y,y≠0→y≠5→y≠6→y≠7→Y'.loc y=Y.loc y∧Y'.fM y=Y.fM y):WM h' Y' wb W :=
 ⟨s,(off 1 (by omega) (by omega) (by omega) (by omega)).1.trans x.l1,(off 1 (by omega) (by omega) (by omega) (by omega)).2.trans x.c1,x.va.iy (off 2 (by omega) (by omega) (by omega) (by omega)),x.ta.iy (off 3 (by omega) (by omega) (by omega) (by omega)),x.ba.iy (off 4 (by omega) (by omega) (by omega) (by omega)),fun i t ht=>(x.tm i t ht).rB c (off _ (by omega) (by omega) (by omega) (by omega)) (off _ (by omega) (by omega) (by omega) (by omega))⟩
theorem PM.IU(x:PM h pb D)(f:P3 h D.q D.vw)(c:ui h D.Y h' Y'):∀b,Y'.own b→D.q.bR b=.out∧b≠BF∧∀v∈D.vw,v.tb≠b:=fun b hb =>
 (c.2 b hb).elim (x.own b) (f b)
theorem PR.rB(r:PR h D)(c:ui h Y h' Y')(ho:∀b,Y.own b→D.q.bR b=.out∧b≠BF∧∀v∈D.vw,v.tb≠b):PR h' D :=
 ⟨r.g.HP c.1 fun b hb=>(ho b hb).1,⟨bF c.1 r.tz.row fun z=>(ho _ z).2.1 rfl,r.tz.out⟩,fun v hv=>⟨⟨bF c.1 (r.mA v hv).1.row fun z=>(ho _ z).2.2 v hv rfl,(r.mA v hv).1.out⟩,(r.mA v hv).2⟩⟩
theorem PM.yS(m:PM h pb D)(nb':PY D tb)(fE:tb<h.size)(fr:P3 h D.q D.vw)(hb:D.vw.length≤1000000){K:Hp→Prop}
  (hK:∀h4 Y4 sl,PM h4 pb {D with Y:=Y4,rZ:=sl,vw:=D.vw++[⟨tb,i,hn,true⟩]}→ui h D.Y h4 Y4→K h4) :
  gi (h.push (.cells #[vp (sa tb),wv i,vb true] 172)) fun h2=>im 172 3 24 #[vp none,vi 0,vb false] D.rZ.a D.rZ.n D.rZ.c (some (nb h)) 1 h2 fun ra rn rc h3=>bE (sa pb) fun p=>gZ h3 (p.add 2)∧gi (fy h3 (p.add 2) (.slice ra rn rc)) K:=by
 have vn:=m.vn
 refine m.F5.aoU (arr:=#[vp (sa tb),wv i,vb true]) m.wm.sp rfl rfl (fun v hv=>by simp at hv;rcases hv with rfl|rfl|rfl<;>rfl) (by omega) (by omega) fun a' c' h3 ob c s3 i3 c3=>?_
 have l0:(D.Y.jR 5 ob c).loc 0=some pb:=by rw [Mem.fR _ _ _ (by omega)];exact m.l0
 have cc0:(D.Y.jR 5 ob c).fM 0=_:=(Mem.gr _ _ _ (by omega)).trans m.c0
 refine bw (s3.st l0 (cm _ _) (by rw [cc0];simp) fun h4 s4 c4=>?_)
 have cA:=c3.trans c4
 have off:∀y,y≠0→y≠5→((D.Y.jR 5 ob c).jR 0 (some pb) (((D.Y.jR 5 ob c).fM 0).set 2 (.slice a' (D.rZ.n+1) c'))).loc y=D.Y.loc y∧((D.Y.jR 5 ob c).jR 0 (some pb) (((D.Y.jR 5 ob c).fM 0).set 2 (.slice a' (D.rZ.n+1) c'))).fM y=D.Y.fM y:=fun y h0 h5=>by
  rw [Mem.fR _ _ _ h0,Mem.gr _ _ _ h0,Mem.fR _ _ _ h5,Mem.gr _ _ _ h5]
  exact⟨rfl,rfl⟩
 refine hK h4 _ ⟨a',D.rZ.n+1,c'⟩ ⟨Mem.gM ..,(Mem.jT _ _ _ _).trans (by rw [cc0];rfl),m.wm.rB cA s4 fun y h0 h5 _ _=>off y h0 h5,?_,m.hi.iy (off 6 (by omega) (by omega)),m.li.iy (off 7 (by omega) (by omega)),fun b fV=>?_,fun t ht e he=>⟨(m.su t ht e he).1,fun v hv=>?_⟩,⟨?_,fun v hv=>?_⟩,⟨cL m.bs.k cA.1 m.bs.o,m.bs.r,fun b fV=>(cA.2 b fV).elim (m.bs.o b) fun h=>bP m.bs.k.1 h,fun v hv=>?_⟩⟩ cA
 ·show kO 3 _ 5 ⟨a',D.rZ.n+1,c'⟩ ((D.vw++[(⟨tb,i,hn,true⟩:VD)]).flatMap mB)
  rw [gW,cJ,iW,eV]
  exact kO.oR i3 (by omega)
 ·obtain⟨a,b',c''⟩:=m.IU fr cA b fV
  refine⟨a,b',fun v hv=>?_⟩
  rcases bI.1 hv with h|h
  ·exact c'' v h
  ·rw [bM.1 h]
   rcases cA.2 b fV with h1|h1
   ·exact nb'.y b h1
   ·show tb≠b;omega
 ·rcases bI.1 hv with h|h
  ·exact(m.su t ht e he).2 v h
  ·rw [bM.1 h]
   exact nb'.k t ht e he
 ·show ((D.vw++[(⟨tb,i,hn,true⟩:VD)]).map (·.tb)).Nodup
  rw [cx,cu]
  refine⟨m.Hj.1,by simp,fun a ha b fV e=>?_⟩
  rw [cU,kI,bM]at fV
  obtain⟨w,hw,rfl⟩:=cy.1 ha
  exact nb'.v w hw (e.trans fV)
 ·rcases bI.1 hv with h|h
  ·exact m.Hj.2 v h
  ·rw [bM.1 h];exact nb'.z
 ·rcases bI.1 hv with h|h
  ·exact m.bs.v v h
  ·rw [bM.1 h];exact nb'.b
theorem PM.aak(m:PM h pb D)(fr:P3 h D.q D.vw)(ht:D.W.de[i]?=some t){o:Nat}{v:Value}{p:Addr}(hp:p=(ad t.jY).add o) (ho:o<7) (e:Iz t'=(Iz t).set o v) (eb:t'.jY=t.jY) (ee:t'.es=t.es) (esl:t'.sl=t.sl) {K:Hp→Prop}
  (hK:∀h2 Y2,PM h2 pb {D with W:=D.W.gJ i t',Y:=Y2}→ui h D.Y h2 Y2→K h2):gZ h p∧gi (fy h p v) K :=
 (wY.refl (m.wm.tm i t ht) m.wm.sp).st hp ho e eb ee esl fun h2 Y2 u=>hK h2 Y2
  ⟨(u.off 0 (by omega) (by omega)).1.trans m.l0,(u.off 0 (by omega) (by omega)).2.trans m.c0,m.wm.up ht u eb,m.F5.iy (u.off 5 (by omega) (by omega)),m.hi.iy (u.off 6 (by omega) (by omega)),m.li.iy (u.off 7 (by omega) (by omega)),m.IU fr u.rB,fun t0 ht0 e0 he=>by
   rcases dB ht0 with h|h
   ·exact m.su t0 h e0 he
   ·subst h
    exact m.su t (bx ht) e0 (ee▸he),m.Hj,⟨cL m.bs.k u.rB.1 m.bs.o,m.bs.r,fun b fV=>(u.rB.2 b fV).elim (m.bs.o b) fun h=>bP m.bs.k.1 h,m.bs.v⟩⟩ u.rB
theorem PM.aaa(m:PM h pb D)(ht:D.W.de[i]?=some t){z:Int}(hz:z=(i:Int)) {K:OA→Prop} (hK:K (sa t.jY)) :
  (0≤z∧z<(D.W.ts.n:Int))∧bE D.W.ts.a fun p52=>∃t53:OA,cell h (p52.add (z.toNat*1))=some (vp t53)∧K t53:=by
 subst hz
 obtain⟨b,ha,hc⟩:=m.wm.tat ht
 have tn:=m.wm.tn
 have tl:=(bp.1 ht).1
 exact⟨(by omega),cW ha ⟨_,by rw [bu,cQ];exact hc,hK⟩⟩
theorem WV.num(w:WV W)(ht:W.de[i]?=some t)(e1:t'.es=t.es)(e2:t'.df=t.df)(e3:(t'.bk,t'.od,t'.mv)=(t.bk,t.od,t.mv)) (hb:t'.vw<100000000∧t'.hd<100000000):WV (W.gJ i t'):=by
 obtain⟨tv,Fi,b1,b2,b3,b4,b5⟩:=w.es t (bx ht)
 injection e3 with e3 e4
 injection e4 with e4 e5
 exact w.gJ ⟨by rw [e1];exact tv.pw,by rw [e1,e2];exact tv.hs,by rw [e2];exact tv.sd,by rw [e1];exact tv.ln⟩ (by rw [e1];exact Fi) ⟨by omega,by omega,by omega,hb.1,hb.2⟩
theorem PW.TC(w:PW D k)(ht:D.W.de[i]?=some t):t.vw≤k∧t.hd≤k:=by
 obtain⟨e1,e2⟩:=w.hc.cv i t ht
 have bd:=w.bd
 have l1:FN D.vw i≤D.vw.length:=dT _ _
 have l2:FO D.ho i≤D.ho.length:=dT _ _
 exact(by omega)
theorem PW.yS(w:PW D k)(hk:k≤200000)(ht:D.W.de[i]?=some t)(hT:D.to[i]?=some T)(hl:t.ib=true)(er:s1.bC=ix D.s.bC T.t)(lm:s1.cM=D.s.cM){sl:Sl}:
  PW {D with W:=D.W.gJ i {t with vw:=t.vw+1},q:=q1,s:=s1,Y:=Y2,rZ:=sl,vw:=D.vw++[⟨tb,i,RS.dV D.s.bC+1,true⟩]} (k+1):=by
 have hc:=w.hc.yS (tb:=tb) ht
 rw [xp hT]at hc
 have c:=w.TC ht
 have Du:WV (D.W.gJ i {t with vw:=t.vw+1}):=w.wv.num ht rfl rfl rfl ⟨by show t.vw+1<_;omega,by show t.hd<_;omega⟩
 have rl:=yz D.s.bC T.t
 have bd:=w.bd
 refine⟨w.pg.reT ht rfl rfl rfl (fun _=>hl) (er▸hc.NV ?_ w.pg.ll fun v hv=>by rw [w.pg.mA];exact(w.pg.PX hv).2),er▸hc,Du,lm.trans w.iN,w.n1,?_,?_⟩
 ·show _=(D.W.de.set i _).length
  rw [cd];exact w.pg.tl
 ·have:=w.rl
  show s1.bC.length≤_
  rw [er];omega
 ·show D.W.eX.length≤_∧(D.W.de.set i _).length≤_∧D.W.gy.length≤_∧(D.vw++[_]).length≤_∧D.ho.length≤_
  rw [cd,bG]
  exact⟨by omega,by omega,by omega,by show D.vw.length+1≤_;omega,by omega⟩
theorem zU(x:Pl h pb D k){r:Nat}(hr:r<18446744073709551616)(hb:(D.s.uW r).2≠0∨(D.s.uW r).1.1≠4) (hR:R (vb true) h):bq PG 188 #[vp (sa pb),uv r,vi (-1)] h R:=by
 refine Mp ?_
 unfold XQ
 exact bw ⟨_,x.m.BH,Sj x.r.g hr hb ⟨_,_,rfl,cr rfl (cr rfl hR)⟩⟩
theorem HG(x:Pl h pb D k)(hk:k≤200000)(ht:D.W.de[i]?=some t)(hT:D.to[i]?=some T)(hl:t.ib=true)(hh:D.s.da T.t)
  (hR:∀h' D',Pl h' pb D' (k+1)→D'.hB=D.hB→R (vb true) h'):bq PG 188 #[vp (sa pb),uv (D.s.fk T.t),wv i] h R:=by
 have rl:=x.w.rl
 have bd:=x.w.bd
 obtain⟨Kj,_⟩:=x.w.pg.tb i t T ht hT hl
 have cn:=x.w.TC ht
 refine Mp ?_
 unfold XQ
 refine bw ⟨_,x.m.BH,akp x.r.g x.r.tz (by omega) Kj.c hh fun h1 q1 s1 tb op al er ex hs1 hs2 hro=>⟨_,_,rfl,cj (decide_eq_false (by omega)) (cj rfl ?_)⟩⟩
 have m1:PM h1 pb {D with q:=q1,s:=s1,nd:=D.nd}:=x.m.ex ex
 have r1:PR h1 {D with q:=q1,s:=s1,nd:=D.nd}:=x.r.ex op.g ex
 have nb1:PY D tb:=.of x.m x.r hs1
 have ass:PY {D with q:=q1,s:=s1,nd:=D.nd} tb:=⟨nb1.y,nb1.k,nb1.v,nb1.z,nb1.b⟩
 show Jw (sa pb) (i:Int) (sa tb) false h1 R
 unfold Jw
 refine cj rfl (bw ⟨D.rZ,(m1.cl 2).trans rfl,m1.yS (i:=i) (hn:=RS.dV D.s.bC+1) ass hs2 r1.Tn (by show D.vw.length≤_;omega) fun h4 Y4 sl m4 c4=>?_⟩)
 refine bw ⟨_,(m4.cl 1).trans rfl,bw ⟨D.W.ts,(m4.wm.cl 2).trans rfl,m4.aaa ht rfl ?_⟩⟩
 have l4:ti h4 q1 tb (RS.dV D.s.bC+1):=⟨bF c4.1 op.l.row fun z=>nb1.y _ z rfl,op.l.out⟩
 have r4:PR h4 {D with q:=q1,s:=s1,nd:=D.nd,Y:=Y4,rZ:=sl,vw:=D.vw++[⟨tb,i,RS.dV D.s.bC+1,true⟩]}:=by
  have r:=r1.rB c4 m1.own
  refine⟨r.g,r.tz,fun v hv=>?_⟩
  rcases bI.1 hv with h|h
  ·exact r.mA v h
  ·rw [bM.1 h];exact⟨l4,op.lt⟩
 refine bw ⟨_,((m4.wm.tm i t ht).cl m4.wm.sp 5).trans rfl,bw ?_⟩
 rw [bU (by omega) (by omega)]
 refine m4.aak (t':={t with vw:=t.vw+1}) r4.Tn ht rfl (by omega) rfl rfl rfl rfl fun h5 Y5 m5 c5=>?_
 exact hR h5 _ ⟨m5,by
  have r:=r4.rB c5 m4.own
  exact⟨r.g,r.tz,r.mA⟩,x.w.yS hk ht hT hl er al.iN⟩ rfl
end
theorem CG {α:Type}{l:List α}{j:Nat}{a:α}(h:l[j]?=some a):l.set j a=l:=by
 refine cG fun i=>?_
 rw [eW]
 by_cases e:j=i
 ·subst e
  rw [if_pos rfl,if_pos (bp.1 h).1,h]
 ·rw [if_neg e]
section
variable {h h1 h' h2 h3 g:Hp} {pb k i j n tb hn:Nat} {D D':PL} {q1:HQ} {s1:RS} {R:RP} {v:VD} {T:TD} {t:DT} {vo:LN} {o:Kd} {W:DW} {Y:Mem} {key mN:LN} {x:zg} {vw:List VD}
theorem Im {sz e ze y f:Nat}{z:Array Value}{s:Sl}{vs fz:LV}{src:Nat}{K:Hp→Prop}(sp:Sep h Y)(isl:kO sz Y y s vs)(l0:Y.loc 0=some pb)(hf:f<(Y.fM 0).length) (hy:y≠0) (hz:z.size=sz) (r:eM h src fz) (hl:fz.length=1*sz) (kY:∀v∈fz,mj v=true)
  (HZ:(2*(s.n+1)+768)*ze≤2 ^ 48) (fE:s.n+1<2 ^ 62)
  (hK:∀h4 Y4 a' c',Sep h4 Y4→Y4.loc 0=some pb→Y4.fM 0=(Y.fM 0).set f (.slice a' (s.n+1) c')→kO sz Y4 y ⟨a',s.n+1,c'⟩ (vs++fz)→ui h Y h4 Y4→(∀x,x≠0→x≠y→Y4.loc x=Y.loc x∧Y4.fM x=Y.fM x)→K h4) :
  im e sz ze z s.a s.n s.c (sa src) 1 h fun ra rn rc h3=>bE (sa pb) fun p=>gZ h3 (p.add f)∧gi (fy h3 (p.add f) (.slice ra rn rc)) K:=by
 refine⟨fz,lq r,hl,isl.app sp hz hl kY HZ fE fun a' c' h3 ob c s3 i3 c3=>?_⟩
 have l0':(Y.jR y ob c).loc 0=some pb:=by rw [Mem.fR _ _ _ (Ne.symm hy)];exact l0
 have cc0:(Y.jR y ob c).fM 0=Y.fM 0:=Mem.gr _ _ _ (Ne.symm hy)
 refine bw (s3.st l0' (cm _ _) (by rw [cc0];exact hf) fun h4 s4 c4=>hK h4 _ a' c' s4 (Mem.gM ..) (by rw [Mem.jT,cc0]) (kO.oR i3 hy) (c3.trans c4) fun x tF hxy=>?_)
 rw [Mem.fR _ _ _ tF,Mem.gr _ _ _ tF,Mem.fR _ _ _ hxy,Mem.gr _ _ _ hxy]
 exact⟨rfl,rfl⟩
theorem PM.BC(m:PM h pb D)(fr:P3 h D.q D.vw)(hb:D.ho.length≤1000000){src:Nat}(r:eM h src (xM ⟨n,some i⟩)) {K:Hp→Prop}
  (hK:∀h4 Y4 sl,PM h4 pb {D with Y:=Y4,vg:=sl,ho:=D.ho++[⟨n,some i⟩]}→ui h D.Y h4 Y4→K h4) :
  im 218 2 16 #[vi 0,vi 0] D.vg.a D.vg.n D.vg.c (sa src) 1 h fun ra rn rc h3=>bE (sa pb) fun p=>gZ h3 (p.add 3)∧gi (fy h3 (p.add 3) (.slice ra rn rc)) K:=by
 have vn:=m.hn
 refine Im m.wm.sp m.hi m.l0 (by rw [m.c0];simp) (by omega) rfl r rfl (fun v hv=>by simp [xM]at hv;rcases hv with rfl|rfl<;>rfl) (by omega) (by omega) fun h4 Y4 a' c' s4 l4 c4 i4 cg off=>?_
 refine hK h4 Y4 ⟨a',D.vg.n+1,c'⟩ ⟨l4,by rw [c4,m.c0];rfl,m.wm.rB cg s4 fun y h0 _ h6 _=>off y h0 h6,m.F5.iy (off 5 (by omega) (by omega)),?_,m.li.iy (off 7 (by omega) (by omega)),m.IU fr cg,m.su,m.Hj,⟨cL m.bs.k cg.1 m.bs.o,m.bs.r,fun b fV=>(cg.2 b fV).elim (m.bs.o b) fun h=>bP m.bs.k.1 h,m.bs.v⟩⟩ cg
 show kO 2 Y4 6 ⟨a',D.vg.n+1,c'⟩ ((D.ho++[(⟨n,some i⟩:zg)]).flatMap xM)
 rw [gW,cJ,iW,eV]
 exact i4
theorem PM.aoW(m:PM h pb D)(fr:P3 h D.q D.vw)(hb:D.lo.length≤1000000){src:Nat}(r:eM h src [wv n]){K:Hp→Prop}
  (hK:∀h4 Y4 sl,PM h4 pb {D with Y:=Y4,HM:=sl,lo:=D.lo++[n]}→ui h D.Y h4 Y4→K h4) :
  im 3 1 8 #[vi 0] D.HM.a D.HM.n D.HM.c (sa src) 1 h fun ra rn rc h3=>bE (sa pb) fun p=>gZ h3 (p.add 4)∧gi (fy h3 (p.add 4) (.slice ra rn rc)) K:=by
 have vn:=m.ln
 refine Im m.wm.sp m.li m.l0 (by rw [m.c0];simp) (by omega) rfl r rfl (fun v hv=>by simp at hv;rw [hv];rfl) (by omega) (by omega) fun h4 Y4 a' c' s4 l4 c4 i4 cg off=>?_
 refine hK h4 Y4 ⟨a',D.HM.n+1,c'⟩ ⟨l4,by rw [c4,m.c0];rfl,m.wm.rB cg s4 fun y h0 _ _ h7=>off y h0 h7,m.F5.iy (off 5 (by omega) (by omega)),m.hi.iy (off 6 (by omega) (by omega)),?_,m.IU fr cg,m.su,m.Hj,⟨cL m.bs.k cg.1 m.bs.o,m.bs.r,fun b fV=>(cg.2 b fV).elim (m.bs.o b) fun h=>bP m.bs.k.1 h,m.bs.v⟩⟩ cg
 show kO 1 Y4 7 ⟨a',D.HM.n+1,c'⟩ ((D.lo++[n]).map wv)
 rw [cx]
 exact i4
theorem PM.agp(m:PM h pb D)(fr:P3 h D.q D.vw)(hv:D.vw[j]?=some v){z:Int}(hz:z=(j:Int)) {K:Hp→Prop}
  (hK:∀h4 Y4,PM h4 pb {D with Y:=Y4,vw:=D.vw.set j {v with jp:=false}}→ui h D.Y h4 Y4→K h4) :
  (0≤z∧z<(D.rZ.n:Int))∧bE D.rZ.a fun aly=>gZ h ((aly.add (z.toNat*3)).add 2)∧gi (fy h ((aly.add (z.toNat*3)).add 2) (vb false)) K:=by
 subst hz
 have vn:=m.vn
 have hl:=(bp.1 hv).1
 obtain⟨b,hb,ha,_⟩:=m.Qd hv
 obtain⟨ho,isl⟩:=m.F5.set hb (vb false) (o:=j*3+2) (by rw [gN uG];omega)
 refine⟨(by omega),cW ha (m.wm.sp.st hb (by rw [bu,cm,kD]) ho fun h4 s4 c4=>?_)⟩
 have off:∀y,y≠5→(D.Y.jR 5 (some b) ((D.Y.fM 5).set (j*3+2) (vb false))).loc y=D.Y.loc y∧(D.Y.jR 5 (some b) ((D.Y.fM 5).set (j*3+2) (vb false))).fM y=D.Y.fM y:=fun y h5=>by
  rw [Mem.fR _ _ _ h5,Mem.gr _ _ _ h5]
  exact⟨rfl,rfl⟩
 have mt:∀w∈D.vw.set j {v with jp:=false},∃w0∈D.vw,w0.tb=w.tb:=fun w hw=>by
  rcases dB hw with h|rfl
  ·exact⟨w,h,rfl⟩
  ·exact⟨v,bx hv,rfl⟩
 refine hK h4 _ ⟨(off 0 (by omega)).1.trans m.l0,(off 0 (by omega)).2.trans m.c0,m.wm.rB c4 s4 fun y _ h5 _ _=>off y h5,?_,m.hi.iy (off 6 (by omega)),m.li.iy (off 7 (by omega)),fun b fV=>?_,fun t ht e he=>⟨(m.su t ht e he).1,fun w hw=>?_⟩,⟨?_,fun w hw=>?_⟩,⟨cL m.bs.k c4.1 m.bs.o,m.bs.r,fun b fV=>(c4.2 b fV).elim (m.bs.o b) fun h=>bP m.bs.k.1 h,fun w hw=>?_⟩⟩ c4
 ·show kO 3 _ 5 D.rZ ((D.vw.set j {v with jp:=false}).flatMap mB)
  rw [←Fq uG D.vw j 2 v {v with jp:=false} (vb false) hv (by omega) rfl]
  exact isl
 ·obtain⟨a,b',c⟩:=m.IU fr c4 b fV
  refine⟨a,b',fun w hw=>?_⟩
  obtain⟨w0,h0,e⟩:=mt w hw
  exact e▸c w0 h0
 ·obtain⟨w0,h0,e'⟩:=mt w hw
  exact e'▸(m.su t ht e he).2 w0 h0
 ·show ((D.vw.set j {v with jp:=false}).map (·.tb)).Nodup
  rw [ig,CG (by rw [bD,hv];rfl)]
  exact m.Hj.1
 ·obtain⟨w0,h0,e⟩:=mt w hw
  exact e▸m.Hj.2 w0 h0
 ·obtain⟨w0,h0,e⟩:=mt w hw
  exact e▸m.bs.v w0 h0
theorem PM.aal(m:PM h pb D)(fr:P3 h D.q D.vw)(hv:D.ho[j]?=some x){z:Int}(hz:z=(j:Int)) {K:Hp→Prop}
  (hK:∀h4 Y4,PM h4 pb {D with Y:=Y4,ho:=D.ho.set j {x with id:=none}}→ui h D.Y h4 Y4→K h4) :
  (0≤z∧z<(D.vg.n:Int))∧bE D.vg.a fun aaQ=>gZ h ((aaQ.add (z.toNat*2)).add 1)∧gi (fy h ((aaQ.add (z.toNat*2)).add 1) (vi (-1))) K:=by
 subst hz
 have vn:=m.hn
 have hl:=(bp.1 hv).1
 obtain⟨b,hb,ha,_⟩:=m.yL hv
 obtain⟨ho,isl⟩:=m.hi.set hb (vi (-1)) (o:=j*2+1) (by rw [gN vh];omega)
 refine⟨(by omega),cW ha (m.wm.sp.st hb (by rw [bu,cm,kD]) ho fun h4 s4 c4=>?_)⟩
 have off:∀y,y≠6→(D.Y.jR 6 (some b) ((D.Y.fM 6).set (j*2+1) (vi (-1)))).loc y=D.Y.loc y∧(D.Y.jR 6 (some b) ((D.Y.fM 6).set (j*2+1) (vi (-1)))).fM y=D.Y.fM y:=fun y h5=>by
  rw [Mem.fR _ _ _ h5,Mem.gr _ _ _ h5]
  exact⟨rfl,rfl⟩
 refine hK h4 _ ⟨(off 0 (by omega)).1.trans m.l0,(off 0 (by omega)).2.trans m.c0,m.wm.rB c4 s4 fun y _ _ h6 _=>off y h6,m.F5.iy (off 5 (by omega)),?_,m.li.iy (off 7 (by omega)),m.IU fr c4,m.su,m.Hj,⟨cL m.bs.k c4.1 m.bs.o,m.bs.r,fun b fV=>(c4.2 b fV).elim (m.bs.o b) fun h=>bP m.bs.k.1 h,m.bs.v⟩⟩ c4
 show kO 2 _ 6 D.vg ((D.ho.set j {x with id:=none}).flatMap xM)
 rw [←Fq vh D.ho j 1 x {x with id:=none} (vi (-1)) hv (by omega) rfl]
 exact isl
theorem Pl.held(y:Pl h pb D k)(hx:x∈D.ho)(hi:x.id=some i):∃t T,D.W.de[i]?=some t∧D.to[i]?=some T∧t.ib=true∧1≤x.n∧D.s.bC.getD (x.n-1) none=some T.t∧D.s.da T.t:=by
 obtain⟨h1,h2⟩:=y.w.hc.hp x hx i hi
 have ht:D.W.de[i]?=some (D.W.de[i]'h1):=br h1
 have hT:D.to[i]?=some (D.to[i]'(by rw [y.w.pg.tl];exact h1)):=br (by rw [y.w.pg.tl];exact h1)
 generalize D.W.de[i]'h1=t at ht
 generalize D.to[i]'(by rw [y.w.pg.tl];exact h1)=T at hT
 have hl:t.ib=true:=(yi y.w.hc ht).2 (.inr ⟨x,hx,hi⟩)
 obtain⟨r,d⟩:=y.w.pg.tb i t T ht hT hl
 have hd:D.s.bC.getD (x.n-1) none=some T.t:=by
  refine(y.w.hc.c.ch _ _).2 (bK _ (bW _ (ft.2 ⟨x,hx,?_⟩)))
  unfold pV
  rw [hi,dR,xp hT]
 exact⟨t,T,ht,hT,hl,h2,hd,y.r.g.da (.root (lV.2 ⟨_,hd⟩) (r.c.g.nz _ T.jO))⟩
theorem VF(x:Pl h pb D k)(hk:k<200000)(ov:ZU o)(hu:(-9223372036854775808≤o.u∧o.u<9223372036854775808)∧-9223372036854775808≤o.t∧o.t<9223372036854775808)
  (hR:∀h' D',Pl h' pb D' (k+2)→D'.hB=D.hB→R (vb true) h'):bq PG 143 #[vp (sa pb),.agg o.cells.toArray] h R:=by
 have done:∀h',bY N h h'→R (vb true) h':=fun h' kk=>hR h' D ⟨(x.cI kk).m,(x.cI kk).r,x.w.mono (by omega)⟩ rfl
 refine Yj (mq:=o.uE) (mn:=o.t) (nF:=o.u) (wD:=o.key) (wC:=o.mN) (wB:=o.n) (wA:=o.w) (wx:=(o.c:Int)) (ww:=(o.a:Int)) (wu:=(o.b:Int)) ?_
 unfold afc
 refine dh fun h1 e1=>?_
 have k1:bY N h h1:=e1▸cF _ _ _
 have r5:eM h1 h.size o.cells:=by
  rw [e1]
  exact du h #[vi o.uE,vi o.t,vi o.u,.slice o.key.a o.key.n o.key.c,.slice o.mN.a o.mN.n o.mN.c,vi o.n,vi o.w,uv o.c,uv o.a,uv o.b] 89
 clear e1
 have x1:=x.cI k1
 have vn:=x1.m.vn
 have hn:=x1.m.hn
 have bd:=x.w.bd
 rw [show nb h=ad h.size from rfl,show nb h1=ad h1.size from rfl]
 refine⟨o.w,ia r5 rfl,fY (fun _=>bw ⟨D.rZ,(x1.m.cl 2).trans rfl,?_⟩) fun _=>fY (fun _=>bw ⟨D.vg,(x1.m.cl 3).trans rfl,?_⟩) fun _=>fY (fun _=>?_) fun _=>?_⟩
 ·
  refine fY (fun _=>done h1 k1) fun iS=>?_
  have DG:0<D.vw.length:=by
   have:=beq_eq_false_iff_ne.1 iS
   omega
  have m1:=jk o.t (b:=(D.vw.length:Int)) (by omega)
  have m2:=gI o.t (b:=(D.vw.length:Int)) (by omega)
  obtain⟨j,hj⟩:∃j:Nat,o.t%(D.vw.length:Int)=(j:Int):=⟨(o.t%(D.vw.length:Int)).toNat,(fj m1).symm⟩
  have nK:j<D.vw.length:=by omega
  have xL:D.vw[j]?=some (D.vw[j]'nK):=br nK
  generalize D.vw[j]'nK=u at xL
  have LA:u∈D.vw:=bx xL
  obtain⟨b,_,hb,hc⟩:=x1.m.Qd xL
  refine bw ⟨D.rZ,(x1.m.cl 2).trans rfl,o.t,ia r5 rfl,bw ⟨D.rZ,(x1.m.cl 2).trans rfl,(j:Int),?_,(by omega),?_⟩⟩
  ·rw [vn]
   refine rD DG (by omega) hu.2 ?_
   rw [hj];exact⟨rfl,rfl⟩
  rw [hb]
  refine bw ⟨some (ad u.tb),by rw [bu];exact(hc 0 (by omega)).trans rfl,(u.id:Int),by rw [bu];exact(hc 1 (by omega)).trans rfl,u.jp,by rw [bu];exact(hc 2 (by omega)).trans rfl,dh fun h4 e4=>?_⟩
  have k4:bY N h1 h4:=e4▸cF _ _ _
  have r4:eM h4 h1.size [vp none,vi 0,vb false]:=e4▸du h1 #[vp none,vi 0,vb false] 172
  clear e4
  have x4:=x1.cI k4
  have r54:=bF k4 r5 _root_.id
  obtain⟨b2,_,vW,xO⟩:=x4.m.Qd xL
  rw [hb]at vW
  obtain rfl:b=b2:=by injection vW with e;injection e
  refine⟨⟨some (ad u.tb),by rw [bu];exact(xO 0 (by omega)).trans rfl,(u.id:Int),by rw [bu];exact(xO 1 (by omega)).trans rfl,u.jp,by rw [bu];exact(xO 2 (by omega)).trans rfl,rfl⟩,?_,⟨D.rZ,(x4.m.cl 2).trans rfl,by rw [hb]⟩,⟨o.t,ia r54 rfl,rfl⟩,⟨D.rZ,(x4.m.cl 2).trans rfl,by rw [hb]⟩,?_⟩
  ·rw [vn]
   refine rD DG (by omega) hu.2 ?_
   rw [hj];exact⟨rfl,rfl⟩
  refine eu r4 (i:=0) rfl (by simp) fun h5 r6 k5=>eu r6 (i:=1) (cm _ _) (by simp) fun h6 r7 k6=>eu r7 (i:=2) (cm _ _) (by simp) fun h7 r8 k7=>?_
  have GU:bY N h1 h7:=(cL k4 ((k5.trans k6).trans k7) fun b e=>by rw [e];exact bH _).mono fun _ _ z=>z.elim
  have r8:eM h7 h1.size (mB u):=r8
  have x7:=x1.cI GU
  refine⟨u.jp,ia r8 rfl,fY (fun HT=>⟨_,(bS r8 0).trans rfl,?_⟩) fun HT=>⟨_,(bS r8 0).trans rfl,?_⟩⟩
  ·have HT:u.jp=false:=by cases h:u.jp with|false=>rfl|true=>rw [h]at HT;cases HT
   refine Qg x7.r.g (x7.Em LA HT) ⟨_,rfl,zU x7 (r:=0) (by omega) (.inl ?_) ⟨_,rfl,done h7 (k1.trans GU)⟩⟩
   unfold RS.uW
   rw [if_pos (RS.np _)]
   show (32:Int)≠0
   omega
  ·have HT:u.jp=true:=by cases h:u.jp with|true=>rfl|false=>rw [h]at HT;cases HT
   obtain⟨t,T,ht,hT,hl,r,d,op⟩:=x7.jp LA HT
   refine⟨_,zN x7.r.g op.l op.pos op.held ⟨rfl,rfl⟩,(u.id:Int),ia r8 rfl,?_⟩
   exact HG x7 (by omega) ht hT hl (op.da T.jO) fun h' D' p e=>⟨_,rfl,hR h' D' ⟨p.m,p.r,p.w.mono (by omega)⟩ e⟩
 ·
  refine fY (fun _=>done h1 k1) fun iS=>?_
  have DG:0<D.ho.length:=by
   have:=beq_eq_false_iff_ne.1 iS
   omega
  have m1:=jk o.u (b:=(D.ho.length:Int)) (by omega)
  have m2:=gI o.u (b:=(D.ho.length:Int)) (by omega)
  obtain⟨j,hj⟩:∃j:Nat,o.u%(D.ho.length:Int)=(j:Int):=⟨(o.u%(D.ho.length:Int)).toNat,(fj m1).symm⟩
  have nK:j<D.ho.length:=by omega
  have xL:D.ho[j]?=some (D.ho[j]'nK):=br nK
  generalize D.ho[j]'nK=u at xL
  have LA:u∈D.ho:=bx xL
  obtain⟨b,_,hb,hc⟩:=x1.m.yL xL
  refine bw ⟨D.vg,(x1.m.cl 3).trans rfl,o.u,ia r5 rfl,bw ⟨D.vg,(x1.m.cl 3).trans rfl,(j:Int),?_,(by omega),?_⟩⟩
  ·rw [hn]
   refine rD DG (by omega) hu.1 ?_
   rw [hj];exact⟨rfl,rfl⟩
  rw [hb]
  obtain⟨z,hz⟩:∃z:Int,z=(match u.id with|some i=>(i:Int)|none=>-1):=⟨_,rfl⟩
  have hVu:xM u=[wv u.n,vi z]:=by rw [hz];rfl
  rw [hVu]at hc
  refine bw ⟨(u.n:Int),by rw [bu];exact(hc 0 (by omega)).trans rfl,z,by rw [bu];exact(hc 1 (by omega)).trans rfl,dh fun h4 e4=>?_⟩
  have k4:bY N h1 h4:=e4▸cF _ _ _
  have r4:eM h4 h1.size [vi 0,vi 0]:=e4▸du h1 #[vi 0,vi 0] 218
  clear e4
  have x4:=x1.cI k4
  have r54:=bF k4 r5 _root_.id
  obtain⟨b2,_,vW,xO⟩:=x4.m.yL xL
  rw [hb]at vW
  obtain rfl:b=b2:=by injection vW with e;injection e
  rw [hVu]at xO
  refine⟨⟨(u.n:Int),by rw [bu];exact(xO 0 (by omega)).trans rfl,z,by rw [bu];exact(xO 1 (by omega)).trans rfl,rfl⟩,?_,⟨D.vg,(x4.m.cl 3).trans rfl,by rw [hb]⟩,⟨o.u,ia r54 rfl,rfl⟩,⟨D.vg,(x4.m.cl 3).trans rfl,by rw [hb]⟩,?_⟩
  ·rw [hn]
   refine rD DG (by omega) hu.1 ?_
   rw [hj];exact⟨rfl,rfl⟩
  refine eu r4 (i:=0) rfl (by simp) fun h5 r6 k5=>eu r6 (i:=1) (cm _ _) (by simp) fun h6 r7 k6=>?_
  have GU:bY N h1 h6:=(cL k4 (k5.trans k6) fun b e=>by rw [e];exact bH _).mono fun _ _ z=>z.elim
  have r8:eM h6 h1.size [wv u.n,vi z]:=r7
  have x7:=x1.cI GU
  refine⟨z,ia r8 rfl,ca (fun _=>done h6 (k1.trans GU)) fun hz0=>?_⟩
  cases iA:u.id with
  |none =>
   rw [iA]at hz
   have hz:z=(-1:Int):=hz
   omega
  |some i =>
   rw [iA]at hz
   have hz:z=(i:Int):=hz
   subst hz
   obtain⟨t,T,ht,hT,hl,Q5,hd,hh⟩:=x7.held LA iA
   refine bw ⟨_,x7.m.BH,(u.n:Int),(bS r8 0).trans rfl,_,_,Vv x7.r.g Q5 hd ⟨rfl,rfl⟩,cr rfl ⟨(i:Int),ia r8 rfl,?_⟩⟩
   exact HG x7 (by omega) ht hT hl hh fun h' D' p e=>⟨_,rfl,hR h' D' ⟨p.m,p.r,p.w.mono (by omega)⟩ e⟩
 ·
  refine⟨o.n,ia r5 rfl,?_⟩
  refine B4 x1 (by omega) ov.n (fun h' q1 s1 p f=>⟨_,_,_,rfl,cr rfl (cr rfl (hR h' _ ⟨p.m,p.r,p.w.mono (by omega)⟩ rfl))⟩) fun h' D' id zz p hB f hh AI hv htt hb hl Ag _ _ _ h2=>⟨_,_,_,rfl,cr rfl (cj ?_ ?_)⟩
  ·have:=x.w.wv.v1
   exact beq_eq_false_iff_ne.2 (by omega)
  ·have ahw:D'.vo[D.W.eX.length]?=some id:=by rw [AI,←x.w.pg.mA,bN (bH _),dD];rfl
   have hvz:D'.W.eX[D.W.eX.length]?=some zz:=by rw [hv,bN (bH _),dD];rfl
   obtain⟨Jf,iS,_⟩:=p.w.pg.vn _ _ _ x.w.wv.v1 ahw hvz
   refine zU p (RS.qi p.r.g.v (.inr hh)) (.inr ?_) ⟨_,rfl,hR h' _ ⟨p.m,p.r,p.w.mono (by omega)⟩ hB⟩
   rw [RS.aeo p.r.g.v p.r.g.sh Jf hh]
   show (200:Nat)≠4
   omega
 ·
  refine bw ⟨_,x1.m.BH,(o.c:Int),ia r5 rfl,qr x1.r.g.v x1.r.g.st.rp ov.c ⟨_,_,_,_,rfl,fY (fun _=>done h1 k1) fun h4=>⟨(o.c:Int),ia r5 rfl,?_⟩⟩⟩
  refine zU x1 ov.c (.inr fun e=>?_) ⟨_,rfl,done h1 k1⟩
  rw [e]at h4
  exact beq_eq_false_iff_ne.1 h4 rfl
end
section
variable {h h1 h' h2 h3 g:Hp} {pb k i j n tb hn:Nat} {D D':PL} {q1:HQ} {s' s1:RS} {nd gm kq:List di} {R:RP} {v:VD} {T:TD} {t t':DT} {vo:LN} {o:Kd} {Y' Y2:Mem} {W:DW} {Y:Mem} {wb:Nat} {x:zg} {vw:List VD}
theorem PW.Cy(w:PW D k):∀v∈lY D.W.gy D.lv,v<D.vo.length:=fun v hv=>by rw [w.pg.mA];exact(w.pg.PX hv).2
theorem PW.tlS(w:PW D k)(t':DT):D.to.length=(D.W.gJ i t').de.length:=by
 show _=(D.W.de.set i _).length
 rw [cd];exact w.pg.tl
theorem PW.BC(w:PW D k)(hk:k≤200000)(ht:D.W.de[i]?=some t)(hT:D.to[i]?=some T)(hl:t.ib=true)(er:s1.bC=ix D.s.bC T.t)(lm:s1.cM=D.s.cM){sl:Sl}:
  PW {D with W:=D.W.gJ i {t with hd:=t.hd+1},q:=q1,s:=s1,Y:=Y2,vg:=sl,ho:=D.ho++[⟨RS.dV D.s.bC+1,some i⟩]} (k+1):=by
 have hc:=w.hc.BC ht
 rw [xp hT]at hc
 have c:=w.TC ht
 have Du:WV (D.W.gJ i {t with hd:=t.hd+1}):=w.wv.num ht rfl rfl rfl ⟨by show t.vw<_;omega,by show t.hd+1<_;omega⟩
 have rl:=yz D.s.bC T.t
 have bd:=w.bd
 refine⟨w.pg.reT ht rfl rfl rfl (fun _=>hl) (er▸hc.NV (w.tlS _) w.pg.ll w.Cy),er▸hc,Du,lm.trans w.iN,w.n1,?_,?_⟩
 ·have:=w.rl
  show s1.bC.length≤_
  rw [er];omega
 ·show D.W.eX.length≤_∧(D.W.de.set i _).length≤_∧D.W.gy.length≤_∧D.vw.length≤_∧(D.ho++[_]).length≤_
  rw [cd,bG]
  exact⟨by omega,by omega,by omega,by omega,by show D.ho.length+1≤_;omega⟩
theorem PW.Bs(w:PW D k)(hk:k≤200000)(hx:D.ho[j]?=some x)(hi:x.id=some i)(ht:D.W.de[i]?=some t)(er:s1.bC=D.s.bC.set (x.n-1) none) (lm:s1.cM=D.s.cM) :
  PW {D with W:=D.W.gJ i {t with hd:=t.hd-1},q:=q1,s:=s1,Y:=Y2,ho:=D.ho.set j {x with id:=none}} (k+1):=by
 obtain⟨hc,h1⟩:=w.hc.Bs hx hi ht
 have c:=w.TC ht
 have Du:WV (D.W.gJ i {t with hd:=t.hd-1}):=w.wv.num ht rfl rfl rfl ⟨by show t.vw<_;omega,by show t.hd-1<_;omega⟩
 have bd:=w.bd
 refine⟨w.pg.reT ht rfl rfl rfl (fun hl=>?_) (er▸hc.NV (w.tlS _) w.pg.ll w.Cy),er▸hc,Du,lm.trans w.iN,w.n1,?_,?_⟩
 ·unfold DT.ib at hl ⊢
  have hl:t.vw+(t.hd-1)≠0:=of_decide_eq_true hl
  exact decide_eq_true (by omega)
 ·have:=w.rl
  show s1.bC.length≤_
  rw [er,cd];omega
 ·show D.W.eX.length≤_∧(D.W.de.set i _).length≤_∧D.W.gy.length≤_∧D.vw.length≤_∧(D.ho.set j _).length≤_
  rw [cd,cd]
  exact⟨by omega,by omega,by omega,by omega,by omega⟩
theorem PW.close(w:PW D k)(hk:k≤200000)(hv:D.vw[j]?=some v)(ho:v.jp=true)(ht:D.W.de[v.id]?=some t)(er:s1.bC=D.s.bC.set (v.hn-1) none) (lm:s1.cM=D.s.cM) :
  PW {D with W:=D.W.gJ v.id {t with vw:=t.vw-1},q:=q1,s:=s1,Y:=Y2,vw:=D.vw.set j {v with jp:=false}} (k+1):=by
 obtain⟨hc,h1⟩:=w.hc.close hv ho ht
 have c:=w.TC ht
 have Du:WV (D.W.gJ v.id {t with vw:=t.vw-1}):=w.wv.num ht rfl rfl rfl ⟨by show t.vw-1<_;omega,by show t.hd<_;omega⟩
 have bd:=w.bd
 refine⟨w.pg.reT ht rfl rfl rfl (fun hl=>?_) (er▸hc.NV (w.tlS _) w.pg.ll w.Cy),er▸hc,Du,lm.trans w.iN,w.n1,?_,?_⟩
 ·unfold DT.ib at hl ⊢
  have hl:t.vw-1+t.hd≠0:=of_decide_eq_true hl
  exact decide_eq_true (by omega)
 ·have:=w.rl
  show s1.bC.length≤_
  rw [er,cd];omega
 ·show D.W.eX.length≤_∧(D.W.de.set _ _).length≤_∧D.W.gy.length≤_∧(D.vw.set j _).length≤_∧D.ho.length≤_
  rw [cd,cd]
  exact⟨by omega,by omega,by omega,by omega,by omega⟩
theorem VN {df jY:Nat}(c:yT nd (wT n df)) (hs:df<18446744073709551616):lZ nd vo (ua df jY) (wT n df) :=
 ⟨c,VO hs,rfl,by rw [aaZ];rfl,by rw [SQ];exact fT _,nofun⟩
theorem PW.EU(w:PW D k)(hk:k≤200000){df jY:Nat}(hs:df<18446744073709551616){m:List di}(en:kq=D.nd++m)(c:yT kq (wT D.nd.length df)) (er:s1.bC=ix D.s.bC D.nd.length) (lm:s1.cM=D.s.cM) {sl ts:Sl} :
  PW {D with W:={D.W with de:=D.W.de++[ua df jY],ts:=ts},q:=q1,s:=s1,nd:=kq,to:=D.to++[wT D.nd.length df],Y:=Y2,rZ:=sl,vw:=D.vw++[⟨tb,D.W.de.length,RS.dV D.s.bC+1,true⟩]} (k+1):=by
 subst en
 have hc:=w.hc.EU (t:=ua df jY) (T:=wT D.nd.length df) (tb:=tb) (ts:=ts) w.pg.tl rfl rfl
 have er:s1.bC=ix D.s.bC (wT D.nd.length df).t:=er
 have Kj:lZ (D.nd++m) D.vo (ua df jY) (wT D.nd.length df):=VN c hs
 have rl:=yz D.s.bC (wT D.nd.length df).t
 have bd:=w.bd
 have Du:WV {D.W with de:=D.W.de++[ua df jY],ts:=ts}:=⟨w.wv.iN,w.wv.v1,w.wv.mA,w.wv.vz,by show (D.W.de++[_]).length≤_;rw [bG];show D.W.de.length+1≤_;omega,w.wv.bl,w.wv.bz,fun t ht=>by
  rcases bI.1 ht with h|h
  ·exact w.wv.es t h
  ·rw [bM.1 h]
   exact⟨⟨List.Pairwise.nil,nofun,hs,cP _⟩,nofun,by show (4:Nat)≤_;omega,by show (0:Nat)≤_;omega,by show (0:Nat)≤_;omega,by show (1:Nat)<_;omega,by show (0:Nat)<_;omega⟩⟩
 refine⟨w.pg.ajk Kj (fun y hy=>?_) rfl (er▸hc.NV ?_ w.pg.ll w.Cy),er▸hc,Du,lm.trans w.iN,by show 1≤(D.nd++m).length;rw [bG];have:=w.n1;omega,?_,?_⟩
 ·rw [EV]at hy
  simp at hy
  omega
 ·show (D.to++[_]).length=(D.W.de++[_]).length
  rw [bG,bG,w.pg.tl];rfl
 ·have:=w.rl
  show s1.bC.length≤_
  rw [er];omega
 ·show D.W.eX.length≤_∧(D.W.de++[_]).length≤_∧D.W.gy.length≤_∧(D.vw++[_]).length≤_∧D.ho.length≤_
  rw [bG,bG]
  exact⟨by omega,by show D.W.de.length+1≤_;omega,by omega,by show D.vw.length+1≤_;omega,by omega⟩
theorem PM.EU(m:PM h pb D)(fr:P3 h D.q D.vw){df jY:Nat}{ts:Sl}(w:WM h' Y' D.wb {D.W with de:=D.W.de++[ua df jY],ts:=ts}) (c:ui h D.Y h' Y') (off:∀y,y≠1→y≠3→y≠8+2*D.W.de.length→y≠9+2*D.W.de.length→Y'.loc y=D.Y.loc y∧Y'.fM y=D.Y.fM y) :
  PM h' pb {D with W:={D.W with de:=D.W.de++[ua df jY],ts:=ts},Y:=Y'} :=
 ⟨(off 0 (by omega) (by omega) (by omega) (by omega)).1.trans m.l0,(off 0 (by omega) (by omega) (by omega) (by omega)).2.trans m.c0,w,m.F5.iy (off 5 (by omega) (by omega) (by omega) (by omega)),m.hi.iy (off 6 (by omega) (by omega) (by omega) (by omega)),m.li.iy (off 7 (by omega) (by omega) (by omega) (by omega)),m.IU fr c,fun t ht e he=>(bI.1 ht).elim (fun h=>m.su t h e he) fun h=>(by rw [bM.1 h]at he;exact absurd he qD),m.Hj,⟨cL m.bs.k c.1 m.bs.o,m.bs.r,fun b fV=>(c.2 b fV).elim (m.bs.o b) fun h=>bP m.bs.k.1 h,m.bs.v⟩⟩
theorem arL {bb:Nat}(x:Pl h pb D k)(hk:k≤200000){c:Nat}(Km:c<18446744073709551616){cs:LV}(r5:eM h bb cs)(h7:cs[7]?=some (uv c)) (hb:D.q.bR bb=.out∧¬D.Y.own bb)
  (hR:∀h' D',Pl h' pb D' (k+1)→D'.hB=D.hB→R (vb true) h') :
  bE (sa pb) fun p26=>∃t28:OA,cell h p26=some (vp t28)∧∃t30:Int,cell h ((ad bb).add 7)=some (vu t30)∧bq PG 58 #[vp t28,vu t30] h fun r h2=>∃Qo:OA,∃adu:Int,r=vt #[vp Qo,vi adu]∧bE (sa pb) fun p36=>∃t38:OA,cell h2 (p36.add 1)=some (vp t38)∧∃t40:Int,cell h2 ((ad bb).add 7)=some (vu t40)∧bq PG 142 #[vp t38,vu t40] h2 fun r h3=>∃Qn:Int,∃adt:Int,r=vt #[vi Qn,vi adt]∧bX (adu != adt) (Fs (sa pb) Qo Qn true h3 R) (Fs (sa pb) Qo Qn (!((Option.isNone Qo)==(decide (Qn<(0:Int))))) h3 R):=by
 have rl:=x.w.rl
 have bd:=x.w.bd
 have c7:∀h2,eM h2 bb cs→cell h2 ((ad bb).add 7)=some (uv c):=fun h2 r=>by rw [cm];exact(bS r 7).trans h7
 obtain⟨dN,l⟩:=x.w.pg.aa3 x.w.wv.v1
 obtain⟨w1,w2⟩:=x.w.pg.Iw x.w.wv.v1 l
 refine bw ⟨_,x.m.BH,(c:Int),c7 h r5,af9 x.r.g x.r.tz (by omega) Km (fun h2 q1 s1 kq g1 hm rq rl1 lm ex wX=>⟨_,_,rfl,bw ?_⟩) fun h2 q1 s1 kq tb op hm er lm ex hs1 hs2 hro xK=>⟨_,_,rfl,bw ?_⟩⟩
 ·obtain⟨m,rfl⟩:=hm
  have wX:=wX dN l
  have x2:Pl h2 pb (D.prog q1 s1 (D.nd++m)) (k+1):=x.prog g1 ex (x.w.pg.grow m fun r _=>rq.mem r) rq lm (by rw [bG];omega) (by have:=JW D.s.bC;omega)
  have r52:=bF ex.gK r5 fun z=>z hb.1
  rw [w1,w2,x.w.iN]at wX
  refine⟨_,(x2.m.cl 1).trans rfl,(c:Int),c7 h2 r52,aoH x2.m.wm x2.w.wv (fun g kk _=>⟨_,_,rfl,cj rfl ?_⟩) fun g Y' ts jY _ _ hy=>absurd hy wX⟩
  unfold Fs
  exact cj rfl (cj rfl (hR g _ (x2.cI kk) rfl))
 ·obtain⟨m,en⟩:=hm
  have xK:=xK dN l
  rw [w1,w2,x.w.iN]at xK
  have m2:PM h2 pb {D with q:=q1,s:=s1,nd:=kq,to:=D.to++[wT D.nd.length c]}:=by
   have m:=x.m.ex (s':=s1) (gm:=kq) ex
   exact⟨m.l0,m.c0,m.wm,m.F5,m.hi,m.li,m.own,m.su,m.Hj,⟨m.bs.k,m.bs.r,m.bs.o,m.bs.v⟩⟩
  have r2:PR h2 {D with q:=q1,s:=s1,nd:=kq}:=x.r.ex op.g ex
  have r52:=bF ex.gK r5 fun z=>z hb.1
  refine⟨_,(m2.cl 1).trans rfl,(c:Int),c7 h2 r52,aoH m2.wm x.w.wv (fun g kk wX=>absurd xK wX) fun g Y' ts jY wm cg _ off=>⟨_,_,rfl,cj rfl ?_⟩⟩
  have nb0:PY D tb:=.of x.m x.r hs1
  have m3:PM g pb {D with q:=q1,s:=s1,nd:=kq,to:=D.to++[wT D.nd.length c],W:={D.W with de:=D.W.de++[ua c jY],ts:=ts},Y:=Y'}:=m2.EU r2.Tn wm cg off
  have r3:PR g {D with q:=q1,s:=s1,nd:=kq}:=r2.rB cg m2.own
  have l3:ti g q1 tb (RS.dV D.s.bC+1):=⟨bF cg.1 op.l.row fun z=>nb0.y _ z rfl,op.l.out⟩
  have nb3:PY {D with q:=q1,s:=s1,nd:=kq,to:=D.to++[wT D.nd.length c],W:={D.W with de:=D.W.de++[ua c jY],ts:=ts},Y:=Y'} tb:=⟨fun b hb e=>(cg.2 b hb).elim (fun z=>nb0.y b z e) fun z=>by omega,fun t ht e he=>(bI.1 ht).elim (fun h=>nb0.k t h e he) fun h=>(by rw [bM.1 h]at he;exact absurd he qD),nb0.v,nb0.z,nb0.b⟩
  have e0:(!((Option.isNone (sa tb))==(decide ((D.W.de.length:Int)<(0:Int)))))=false:=by rw [decide_eq_false (by omega)];rfl
  show Fs (sa pb) (sa tb) (D.W.de.length:Int) (!((Option.isNone (sa tb))==(decide ((D.W.de.length:Int)<(0:Int))))) g R
  rw [e0]
  unfold Fs
  refine cj rfl (cr rfl (bw ⟨D.rZ,(m3.cl 2).trans rfl,m3.yS (i:=D.W.de.length) (hn:=RS.dV D.s.bC+1) nb3 (bZ hs2 cg.1.1) r3.Tn (by show D.vw.length≤_;omega) fun h4 Y4 sl m4 c4=>?_⟩))
  refine hR h4 _ ⟨m4,?_,x.w.EU hk Km en op.c er lm⟩ rfl
  have r:=r3.rB c4 m3.own
  refine⟨r.g,r.tz,fun v hv=>?_⟩
  rcases bI.1 hv with h|h
  ·exact r.mA v h
  ·rw [bM.1 h]
   exact⟨⟨bF c4.1 l3.row fun z=>nb3.y _ z rfl,l3.out⟩,op.lt⟩
theorem aaK(x:Pl h pb D k)(hk:k≤200000){z:Int}(hz:-9223372036854775808≤z∧z<9223372036854775808){p:Addr}(hp:cell h p=some (vi z))
  (hR:∀h' D',Pl h' pb D' (k+1)→D'.hB=D.hB→R (vb true) h') :
  bE (sa pb) fun p76=>∃t78:Sl,cell h (p76.add 3)=some (.slice t78.a t78.n t78.c)∧bX (((t78.n:Int))==(0:Int)) (R (vb true:Value) h) (∃t82:Int,cell h p=some (vi t82)∧bE (sa pb) fun p84=>∃t86:Sl,cell h (p84.add 3)=some (.slice t86.a t86.n t86.c)∧∃IA:Int,bq PG 21 #[vi t82,vi ((t86.n:Int))] h (fun v h'=>v=(vi IA)∧h'=h)∧bE (sa pb) fun p90=>∃t92:Sl,cell h (p90.add 3)=some (.slice t92.a t92.n t92.c)∧(0≤IA∧IA<(t92.n:Int))∧bE t92.a fun p94=>∃t96:Int,cell h ((p94.add (IA.toNat*2)).add 1)=some (vi t96)∧bX (decide (t96≥(0:Int))) (bE (sa pb) fun p99=>∃akS:OA,cell h (p99.add 1)=some (vp akS)∧bE akS fun ase=>∃UL:Sl,cell h (ase.add 2)=some (.slice UL.a UL.n UL.c)∧bE (sa pb) fun agX=>∃Ei:Sl,cell h (agX.add 3)=some (.slice Ei.a Ei.n Ei.c)∧(0≤IA∧IA<(Ei.n:Int))∧bE Ei.a fun agW=>∃NG:Int,cell h ((agW.add (IA.toNat*2)).add 1)=some (vi NG)∧(0≤NG∧NG<(UL.n:Int))∧bE UL.a fun asd=>∃agk:OA,cell h (asd.add (NG.toNat*1))=some (vp agk)∧bE agk fun asc=>∃akQ:Int,cell h (asc.add 6)=some (vi akQ)∧bE agk fun alC=>gZ h (alC.add 6)∧gi (fy h (alC.add 6) (vi (wrap .i64 (akQ-(1:Int))))) fun h9=>bE (sa pb) fun asb=>∃UK:Sl,cell h9 (asb.add 3)=some (.slice UK.a UK.n UK.c)∧(0≤IA∧IA<(UK.n:Int))∧bE UK.a fun aaQ=>St h9 ((aaQ.add (IA.toNat*2)).add 1) (vi (-1)) fun Dq=>bE (sa pb) fun asa=>∃akP:OA,cell Dq asa=some (vp akP)∧bE (sa pb) fun ar9=>∃UJ:Sl,cell Dq (ar9.add 3)=some (.slice UJ.a UJ.n UJ.c)∧(0≤IA∧IA<(UJ.n:Int))∧bE UJ.a fun ar8=>∃akO:Int,cell Dq (ar8.add (IA.toNat*2))=some (vi akO)∧bq PG 84 #[vp akP,vi akO] Dq fun r Aj=>∃aqA:Int,r=vi aqA∧R (vb true:Value) Aj) (R (vb true:Value) h)):=by
 have hn:=x.m.hn
 have bd:=x.w.bd
 refine bw ⟨D.vg,(x.m.cl 3).trans rfl,fY (fun _=>hR h D ⟨x.m,x.r,x.w.mono (by omega)⟩ rfl) fun iS=>?_⟩
 have DG:0<D.ho.length:=by
  have:=beq_eq_false_iff_ne.1 iS
  omega
 have m1:=jk z (b:=(D.ho.length:Int)) (by omega)
 have m2:=gI z (b:=(D.ho.length:Int)) (by omega)
 obtain⟨j,hj⟩:∃j:Nat,z%(D.ho.length:Int)=(j:Int):=⟨(z%(D.ho.length:Int)).toNat,(fj m1).symm⟩
 have nK:j<D.ho.length:=by omega
 have xL:D.ho[j]?=some (D.ho[j]'nK):=br nK
 generalize D.ho[j]'nK=u at xL
 have LA:u∈D.ho:=bx xL
 obtain⟨b,_,hb,hc⟩:=x.m.yL xL
 refine⟨z,hp,bw ⟨D.vg,(x.m.cl 3).trans rfl,(j:Int),?_,bw ⟨D.vg,(x.m.cl 3).trans rfl,(by omega),?_⟩⟩⟩
 ·rw [hn]
  refine rD DG (by omega) hz ?_
  rw [hj];exact⟨rfl,rfl⟩
 obtain⟨w,hw⟩:∃w:Int,w=(match u.id with|some i=>(i:Int)|none=>-1):=⟨_,rfl⟩
 have hVu:xM u=[wv u.n,vi w]:=by rw [hw];rfl
 rw [hVu]at hc
 refine cW hb ⟨w,by rw [bu];exact(hc 1 (by omega)).trans rfl,ca (fun Ua=>?_) fun _=>hR h D ⟨x.m,x.r,x.w.mono (by omega)⟩ rfl⟩
 cases iA:u.id with
 |none =>
   rw [iA]at hw
   have hw:w=(-1:Int):=hw
   omega
 |some i =>
  rw [iA]at hw
  have hw:w=(i:Int):=hw
  subst hw
  obtain⟨t,T,ht,hT,hl,Q5,hd,hh⟩:=x.held LA iA
  have hd1:=(x.w.hc.Bs xL iA ht).2
  have cn:=x.w.TC ht
  refine bw ⟨_,(x.m.cl 1).trans rfl,bw ⟨D.W.ts,(x.m.wm.cl 2).trans rfl,bw ⟨D.vg,(x.m.cl 3).trans rfl,(by omega),cW hb ⟨(i:Int),by rw [bu];exact(hc 1 (by omega)).trans rfl,x.m.aaa ht rfl (bw ⟨_,((x.m.wm.tm i t ht).cl x.m.wm.sp 6).trans rfl,bw ?_⟩)⟩⟩⟩⟩
  have e1:wrap .i64 ((t.hd:Int)-(1:Int))=((t.hd-1:Nat):Int):=by rw [bU (by omega) (by omega)];omega
  rw [e1]
  refine x.m.aak (t':={t with hd:=t.hd-1}) x.r.Tn ht rfl (by omega) rfl rfl rfl rfl fun h9 Y9 m9 c9=>bw ⟨D.vg,(m9.cl 3).trans rfl,?_⟩
  have r9:PR h9 D:=x.r.rB c9 x.m.own
  refine m9.aal r9.Tn (x:=u) xL rfl fun Dq Y10 m10 c10=>?_
  have r10:PR Dq D:=r9.rB c10 m9.own
  obtain⟨b2,_,vW,xO⟩:=m10.yL (i:=j) (x:={u with id:=none}) (by show (D.ho.set j _)[j]?=_;rw [eW,if_pos rfl,if_pos nK])
  refine bw ⟨_,m10.BH,bw ⟨D.vg,(m10.cl 3).trans rfl,⟨by show (0:Int)≤(j:Nat);omega,by show (j:Int)<(D.vg.n:Int);omega⟩,cW vW ⟨(u.n:Int),by rw [bu];exact(xO 0 (by omega)).trans rfl,?_⟩⟩⟩
  refine BV r10.g Q5 hd fun Aj q1 s1 g1 al er ex=>⟨_,rfl,?_⟩
  have r11:=r10.ex g1 ex
  exact hR Aj _ ⟨m10.ex ex,⟨r11.g,r11.tz,r11.mA⟩,x.w.Bs hk xL iA ht er al.iN⟩ rfl
end
end Go.Ev
