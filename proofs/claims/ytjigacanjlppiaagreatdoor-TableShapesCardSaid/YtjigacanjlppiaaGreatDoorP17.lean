/- The document's world: room, New, begin. No condition. -/
import Derived.Test.YtjigacanjlppiaaGreatDoorP16
set_option linter.all false
set_option maxRecDepth 1000000
open Go.IntKind (wrap)
namespace Go.Ev
open Go.Proofs
def ua(df jY:Nat):DT:=⟨df,[],4,0,0,1,0,jY,⟨none,0,0⟩⟩
section
variable {h h' h2 g:Hp} {Y Y':Mem} {i wb cb:Nat} {t t':DT} {W:DW} {R:RP} {a c:Sl} {S:Nat→Prop} {v:Nat}
theorem kO.iy {sz x:Nat}{s:Sl}{vs:LV}(y:kO sz Y x s vs)(e:Y'.loc x=Y.loc x∧Y'.fM x=Y.fM x):kO sz Y' x s vs :=
 ⟨y.len,fun z=>y.nil (by rw [←e.1];exact z),fun b z=>by rw [e.2];exact y.row b (by rw [←e.1];exact z)⟩
theorem TM.rB(x:TM h Y i t)(c:ui h Y h' Y')(e1:Y'.loc (8+2*i)=Y.loc (8+2*i)∧Y'.fM (8+2*i)=Y.fM (8+2*i)) (e2:Y'.loc (9+2*i)=Y.loc (9+2*i)∧Y'.fM (9+2*i)=Y.fM (9+2*i)):TM h' Y' i t :=
 ⟨e1.1.trans x.loc,e1.2.trans x.fM,x.es.iy e2,fun e he=>⟨bF c.1 (x.ks e he).1 (x.ks e he).2,fun ho=>by
  rcases c.2 _ ho with z|z
  ·exact(x.ks e he).2 z
  ·have:=eE (x.ks e he).1;omega⟩⟩
theorem WM.up(x:WM h Y wb W)(ht:W.de[i]?=some t)(u:wY h Y i h' Y' t')(eb:t'.jY=t.jY):WM h' Y' wb {W with de:=W.de.set i t'}:=by
 have iZ:=(bp.1 ht).1
 refine⟨u.sp,(u.off 1 (by omega) (by omega)).1.trans x.l1,(u.off 1 (by omega) (by omega)).2.trans x.c1,x.va.iy (u.off 2 (by omega) (by omega)),?_,x.ba.iy (u.off 4 (by omega) (by omega)),fun j tj hj=>?_⟩
 ·have e:(W.de.set i t').map (fun t=>Value.pointer (sa t.jY))=W.de.map fun t=>Value.pointer (sa t.jY):=by
   apply cG
   intro j
   rw [bD,bD,eW]
   by_cases e:i=j
   ·subst e
    rw [if_pos rfl,if_pos iZ,ht,dR,dR,eb]
   ·rw [if_neg e]
  show kO 1 Y' 3 W.ts ((W.de.set i t').map fun t=>vp (sa t.jY))
  rw [e]
  exact x.ta.iy (u.off 3 (by omega) (by omega))
 ·have hj:(W.de.set i t')[j]?=some tj:=hj
  rw [eW]at hj
  by_cases e:i=j
  ·subst e
   rw [if_pos rfl,if_pos iZ]at hj
   obtain rfl:=bt hj
   exact u.tm
  ·rw [if_neg e]at hj
   exact(x.tm j tj hj).rB u.rB (u.off _ (by omega) (by omega)) (u.off _ (by omega) (by omega))
theorem MX {L S B z:Nat}(hw:cell h (ad wb)=some (wv L)) (hL:L≤1048576) (rc:eM h cb [wv S,wv B]) (hb:S+B+z<1152921504606846976) (hR:R (vb (decide (iP L S B z))) h) :
  bq PG 186 #[vp (sa wb),vp (sa cb),vi (z:Nat)] h R:=by
 refine XS ?_
 unfold aeR
 exact bw ⟨_,hw,bw ⟨_,(bS rc 0).trans rfl,bw ⟨_,ia rc rfl,_,aoF hL hb ⟨rfl,rfl⟩,hR⟩⟩⟩
theorem WV.Nu(v:WV W)(vv:Nat):W.S vv+W.B vv≤576460752303423489:=by
 have h1:=v.ct vv
 have h2:=afM (W.pR vv)
 have h3:=afN (W.pR vv)
 unfold DW.S DW.B
 omega
theorem afK(x:WM h Y wb W)(v:WV W){z:Nat}(hz:z≤288230376151711744)(hR:∀g,bY N h g→R (vb (decide (iP W.iN (W.S 0) (W.B 0) z))) g) :
  bq PG 190 #[vp (sa wb),vi (z:Nat)] h R:=by
 refine XN ?_
 unfold aeN
 have hb:=v.Nu 0
 refine RN x v (vv:=0) v.v1 fun cb g rc GZ k=>⟨_,rfl,MX (x.cI k).BH v.iN rc (by omega) ⟨_,rfl,hR g k⟩⟩
theorem Y8(x:WM h Y wb W)(v:WV W)(ht:W.de[i]?=some t){n:Nat}(hn:n<100000000)
  (hR:∀g Y' t',wY h Y i g Y' t'→t'=(if t.od=0∧iP W.iN (W.S 0) (W.B 0) (1+n)then {t with od:=t.bk,bk:=n,mv:=0}else t)→R (vt #[]) g) :
  bq PG 191 #[vp (sa wb),vp (sa t.jY),vi (n:Nat)] h R:=by
 have xt:=x.tm i t ht
 refine XM ?_
 unfold aeM
 refine bw ⟨_,(xt.cl x.sp 3).trans rfl,ca (fun wW=>?_) fun hz=>?_⟩
 ·unfold Jv
  exact cr rfl (hR h Y t (wY.refl xt x.sp) (by rw [if_neg (by omega)]))
 ·have e1:wrap .i64 ((1:Int)+(n:Nat))=((1+n:Nat):Int):=by rw [bU (by omega) (by omega)];rfl
  rw [e1]
  refine afK x v (by omega) fun g k=>⟨_,rfl,?_⟩
  have u0:=(wY.refl xt x.sp).cI k
  unfold Jv
  by_cases hr:iP W.iN (W.S 0) (W.B 0) (1+n)
  ·rw [decide_eq_true hr]
   refine cj rfl (bw ⟨_,(u0.tm.cl u0.sp 2).trans rfl,bw (u0.st (t2:={t with od:=t.bk}) rfl (by omega) rfl rfl rfl rfl fun h1 Y1 u1=>bw (u1.st (t2:={t with od:=t.bk,bk:=n}) rfl (by omega) rfl rfl rfl rfl fun h2 Y2 u2=>bw (u2.st (t2:={t with od:=t.bk,bk:=n,mv:=0}) rfl (by omega) rfl rfl rfl rfl fun h3 Y3 u3=>hR h3 Y3 _ u3 ?_)))⟩)
   rw [if_pos ⟨by omega,hr⟩]
  ·rw [decide_eq_false hr]
   exact cr rfl (hR g Y t u0 (by rw [if_neg (fun h=>hr h.2)]))
theorem aoH(x:WM h Y wb W)(v:WV W){df:Nat}(wX:∀g,bY N h g→¬(iP W.iN (W.S 0) (W.B 0) 6∧iP W.iN (W.S 0+6) (W.B 0) 5)→R (vt #[vi (-1),vi 31]) g)
  (vV:∀g Y' ts jY,WM g Y' wb {W with de:=W.de++[ua df jY],ts:=ts}→ui h Y g Y'→(iP W.iN (W.S 0) (W.B 0) 6∧iP W.iN (W.S 0+6) (W.B 0) 5)→(∀y,y≠1→y≠3→y≠8+2*W.de.length→y≠9+2*W.de.length→Y'.loc y=Y.loc y∧Y'.fM y=Y.fM y)→R (vt #[vi (W.de.length:Nat),vi 0]) g) :
  bq PG 142 #[vp (sa wb),uv df] h R:=by
 have htl:=v.tl
 have hb:=v.Nu 0
 refine Yk ?_
 unfold afd
 refine RN x v (vv:=0) v.v1 fun cb g rc GZ k=>⟨_,rfl,MX (z:=6) (x.cI k).BH v.iN rc (by omega) ⟨_,rfl,?_⟩⟩
 by_cases h6:iP W.iN (W.S 0) (W.B 0) 6
 ·rw [decide_eq_true h6]
  refine cj rfl (aiZ (z:=6) rc (by omega) fun g1 rc1 k1=>⟨rfl,?_⟩)
  have kk:=cL k k1 fun b hb=>by omega
  have x1:=x.cI kk
  have rc1:eM g1 cb [wv (W.S 0+6),wv (W.B 0)]:=rc1
  refine MX (z:=5) x1.BH v.iN rc1 (by omega) ⟨_,rfl,?_⟩
  by_cases h5:iP W.iN (W.S 0+6) (W.B 0) 5
  ·rw [decide_eq_true h5]
   refine cj rfl (bw ⟨W.ts,(x1.cl 2).trans rfl,dh fun g2 e2=>?_⟩)
   obtain⟨s1,c1⟩:=x1.sp.drop (9+2*W.de.length) []
   obtain⟨s2,c2⟩:=s1.push (8+2*W.de.length) #[uv df,.slice none 0 0,vi 4,vi 0,vi 0,vi 1,vi 0] 221
   have e2:g2=g1.push (.cells #[uv df,.slice none 0 0,vi 4,vi 0,vi 0,vi 1,vi 0] 221):=e2
   rw [←e2]at s2 c2
   have c02:=c1.trans c2
   clear c1 c2 e2
   generalize hY2:(Y.jR (9+2*W.de.length) none []).jR (8+2*W.de.length) (some g1.size) (#[uv df,.slice none 0 0,vi 4,vi 0,vi 0,vi 1,vi 0]:Array Value).toList=Y2 at s2 c02
   have aaV:∀y,y≠8+2*W.de.length→y≠9+2*W.de.length→Y2.loc y=Y.loc y∧Y2.fM y=Y.fM y:=fun y h1 h2=>by
    rw [←hY2,Mem.fR _ _ _ h1,Mem.gr _ _ _ h1,Mem.fR _ _ _ h2,Mem.gr _ _ _ h2]
    exact⟨rfl,rfl⟩
   have l8:Y2.loc (8+2*W.de.length)=some g1.size∧Y2.fM (8+2*W.de.length)=Iz (ua df g1.size):=by
    rw [←hY2,Mem.gM,Mem.jT];exact⟨rfl,rfl⟩
   have l9:Y2.loc (9+2*W.de.length)=none:=by
    rw [←hY2,Mem.fR _ _ _ (by omega),Mem.gM]
   have ta2:=x.ta.iy (aaV 3 (by omega) (by omega))
   have tn:=x.tn
   rw [show nb g1=ad g1.size from rfl]
   refine ta2.aoU (arr:=#[vp (sa g1.size)]) (ze:=8) s2 rfl rfl (fun v hv=>by simp at hv;rcases hv with rfl;rfl) (by omega) (by omega) fun a' c' g3 ob cc s3 i3 c3=>?_
   have l1:(Y2.jR 3 ob cc).loc 1=some wb:=by rw [Mem.fR _ _ _ (by omega),(aaV 1 (by omega) (by omega)).1];exact x.l1
   have cc1:(Y2.jR 3 ob cc).fM 1=[wv W.iN,.slice W.vs.a W.vs.n W.vs.c,.slice W.ts.a W.ts.n W.ts.c,.slice W.bs.a W.bs.n W.bs.c]:=by rw [Mem.gr _ _ _ (by omega),(aaV 1 (by omega) (by omega)).2];exact x.c1
   refine bw (s3.st l1 (cm _ _) (by rw [cc1];simp) fun g4 s4 c4=>bw ⟨⟨a',W.ts.n+1,c'⟩,?_,?_⟩)
   ·rw [s4.FP (Mem.gM ..),Mem.jT,cc1];rfl
   have eL:wrap .i64 ((((⟨a',W.ts.n+1,c'⟩:Sl).n:Nat):Int)-1)=(W.de.length:Int):=by
    show wrap .i64 (((W.ts.n+1:Nat):Int)-1)=_
    rw [bU (by omega) (by omega)];omega
   rw [eL]
   have call:=((ui.pm kk).trans c02).trans (c3.trans c4)
   have off:∀y,y≠1→y≠3→y≠8+2*W.de.length→y≠9+2*W.de.length→((Y2.jR 3 ob cc).jR 1 (some wb) (((Y2.jR 3 ob cc).fM 1).set 2 (.slice a' (W.ts.n+1) c'))).loc y=Y.loc y∧((Y2.jR 3 ob cc).jR 1 (some wb) (((Y2.jR 3 ob cc).fM 1).set 2 (.slice a' (W.ts.n+1) c'))).fM y=Y.fM y:=fun y h1 h3 h8 h9=>by
    rw [Mem.fR _ _ _ h1,Mem.gr _ _ _ h1,Mem.fR _ _ _ h3,Mem.gr _ _ _ h3]
    exact aaV y h8 h9
   refine vV g4 _ ⟨a',W.ts.n+1,c'⟩ g1.size ⟨s4,Mem.gM ..,by rw [Mem.jT,cc1];rfl,x.va.iy (off 2 (by omega) (by omega) (by omega) (by omega)),?_,x.ba.iy (off 4 (by omega) (by omega) (by omega) (by omega)),fun j tj hj=>?_⟩ call ⟨h6,h5⟩ off
   ·show kO 1 _ 3 ⟨a',W.ts.n+1,c'⟩ ((W.de++[ua df g1.size]).map fun t=>vp (sa t.jY))
    rw [cx]
    exact kO.oR i3 (by omega)
   ·have hj:(W.de++[ua df g1.size])[j]?=some tj:=hj
    by_cases nK:j<W.de.length
    ·rw [bL nK]at hj
     exact(x.tm j tj hj).rB call (off _ (by omega) (by omega) (by omega) (by omega)) (off _ (by omega) (by omega) (by omega) (by omega))
    ·rw [bN (by omega)]at hj
     have hj0:j=W.de.length:=by
      have:=(bp.1 hj).1
      simp at this
      omega
     subst hj0
     rw [dD]at hj
     obtain rfl:=bt hj
     have e8:∀(jK:Option Nat) (c':LV),((Y2.jR 3 ob cc).jR 1 jK c').loc (8+2*W.de.length)=some g1.size∧((Y2.jR 3 ob cc).jR 1 jK c').fM (8+2*W.de.length)=Iz (ua df g1.size):=fun jK c'=>by
      rw [Mem.fR _ _ _ (by omega),Mem.gr _ _ _ (by omega),Mem.fR _ _ _ (by omega),Mem.gr _ _ _ (by omega)]
      exact l8
     refine⟨(e8 _ _).1,(e8 _ _).2,⟨rfl,fun _=>⟨rfl,rfl,rfl⟩,fun b hb=>?_⟩,nofun⟩
     rw [Mem.fR _ _ _ (by omega),Mem.fR _ _ _ (by omega),l9]at hb
     cases hb
  ·rw [decide_eq_false h5]
   exact cr rfl (wX g1 kk fun h=>h5 h.2)
 ·rw [decide_eq_false h6]
  exact cr rfl (wX g k fun h=>h6 h.1)
end
theorem H9(e:DE):∀v∈lI e,mj v=true:=fun v hv=>by
 simp [lI]at hv;rcases hv with rfl|rfl|rfl|rfl|rfl<;>rfl
theorem yP(l:List DE):∀v∈l.flatMap lI,mj v=true:=fun v hv=>by
 obtain⟨e,_,h⟩:=mf.1 hv
 exact H9 e v h
theorem Al {α:Type}{f:α→LV}{k:Nat}(hf:∀x,(f x).length=k):∀(l:List α) (n:Nat),(l.take n).flatMap f=(l.flatMap f).take (n*k)
 | [],_=>by simp
 |x::l,0=>by simp
 |x::l,n+1=>by
  have e1:(f x).take (n*k+k)=f x:=eT (by rw [hf];omega)
  rw [rS,cJ,cJ,Al hf l n,nP,List.take_append,hf,e1,show n*k+k-k=n*k by omega]
theorem Am {α:Type}{f:α→LV}{k:Nat}(hf:∀x,(f x).length=k):∀(l:List α) (n:Nat),(l.drop n).flatMap f=(l.flatMap f).drop (n*k)
 | [],_=>by simp
 |x::l,0=>by simp
 |x::l,n+1=>by
  have e1:(f x).drop (n*k+k)=[]:=gH (by rw [hf];omega)
  rw [nZ,cJ,Am hf l n,nP,kP,hf,e1,eU,show n*k+k-k=n*k by omega]
section
variable {h h2 g:Hp} {Y:Mem} {i:Nat} {t:DT} {a c:Sl} {key:LN} {v:Nat} {ob:Option Nat}
theorem HA {a:OA}{l:LV}(r:dZ h a l)(m:Nat):dZ h a (l.take m):=by
 cases a with
 |none =>
  have e:l=[]:=r
  rw [e,List.take_nil];rfl
 |some p =>
  intro j v hj
  have hl:j<m:=by
   have:=(bp.1 hj).1
   rw [dm]at this;omega
  rw [f9 hl]at hj
  exact r j v hj
theorem EK {a:OA}{l:LV}(r:dZ h a l)(c:Nat):dZ h (if c=(0:Int).toNat then a else Option.map (fun x=>x.add ((0:Int).toNat*5)) a) l:=by
 split
 ·exact r
 ·cases a with
  |none=>exact r
  |some p =>
   intro j v hj
   have:=r j v hj
   rw [qJ]
   show cell h (p.add (0*5+j))=_
   rw [pG,fo];exact this
theorem CM {a:OA}{l:LV}(r:dZ h a l)(m c:Nat)(hc:l.length≤c*5):dZ h (if c=m then a else Option.map (fun x=>x.add (m*5)) a) (l.drop (m*5)):=by
 by_cases e:c=m
 ·rw [if_pos e,gH (by rw [←e];exact hc)]
  exact SG h _
 ·rw [if_neg e]
  cases a with
  |none =>
   have e:l=[]:=r
   rw [e,List.drop_nil];rfl
  |some p =>
   intro j v hj
   rw [fi]at hj
   have:=r _ v hj
   show cell h ((p.add (m*5)).add j)=_
   rw [qJ];exact this
theorem TM.QD(x:TM h Y i t)(sp:Sep h Y):dZ h t.sl.a (t.es.flatMap lI):=(GL.mk (h0:=#[]) (a:=t.sl) (x.es.akY sp) fun _ _=>cP _).rd
theorem TM.cap(x:TM h Y i t):t.sl.n≤t.sl.c:=by
 cases hl:Y.loc (9+2*i)with
 |none=>have:=x.es.nil hl;omega
 |some b=>exact(x.es.row b hl).2.1
theorem wY.stE {t1:DT}{h1:Hp}{Y1:Mem}(u:wY h Y i h1 Y1 t1){j o b:Nat}{e e2:DE}{v:Value}{K:Hp→Prop}{p:Addr}(hb:Y1.loc (9+2*i)=some b) (he:t1.es[j]?=some e) (hp:p=((ad b).add (j*5)).add o) (ho:o<5) (ee:lI e2=(lI e).set o v) (ek:e2.key=e.key∧e2.c=e.c)
  (hK:∀h2 Y2,wY h Y i h2 Y2 {t1 with es:=t1.es.set j e2}→Y2.loc (9+2*i)=some b→K h2):gZ h1 p∧gi (fy h1 p v) K:=by
 subst hp
 have nK:=(bp.1 he).1
 have o0:(t1.es.flatMap lI).length=t1.es.length*5:=gN gO _
 obtain⟨q1,q2⟩:=u.tm.es.set (o:=j*5+o) hb v (by rw [o0];omega)
 have ef:(t1.es.set j e2).flatMap lI=(t1.es.flatMap lI).set (j*5+o) v:=by
  apply cG
  intro k
  have hk5:k=k / 5*5+k%5:=by omega
  have hk:k%5<5:=jB _ (by omega)
  by_cases zb:k / 5<t1.es.length
  ·by_cases hkj:k / 5=j
   ·have h1:(t1.es.set j e2)[k / 5]?=some e2:=by rw [hkj,cE nK]
    conv=>lhs;rw [hk5]
    rw [ml gO _ _ _ _ h1 hk,ee,eW,eW]
    rw [gO,o0]
    by_cases Ww:o=k%5
    ·rw [if_pos Ww,if_pos (by omega),if_pos (by omega),if_pos (by omega)]
    ·rw [if_neg Ww,if_neg (by omega)]
     conv=>rhs;rw [hk5]
     rw [ml gO _ _ _ _ (by rw [hkj];exact he) hk]
   ·have h0:t1.es[k / 5]?=some (t1.es[k / 5]'zb):=br zb
    have h1:(t1.es.set j e2)[k / 5]?=some (t1.es[k / 5]'zb):=by rw [dl (Ne.symm hkj)];exact h0
    conv=>lhs;rw [hk5]
    rw [ml gO _ _ _ _ h1 hk,dl (by omega)]
    conv=>rhs;rw [hk5]
    rw [ml gO _ _ _ _ h0 hk]
  ·rw [bV (by rw [gN gO,cd];omega),bV (by rw [cd,o0];omega)]
 refine u.sp.st hb (by rw [cm,kD]) q1 fun h2 s2 c2=>hK h2 _ ⟨s2,u.rB.trans c2,fun x h1 h2=>?_,⟨?_,?_,?_,fun z hz=>?_⟩⟩ (Mem.gM ..)
 ·rw [Mem.fR _ _ _ h2,Mem.gr _ _ _ h2]
  exact u.off x h1 h2
 ·rw [Mem.fR _ _ _ (by omega)];exact u.tm.loc
 ·rw [Mem.gr _ _ _ (by omega)];exact u.tm.fM
 ·show kO 5 _ _ t1.sl ((t1.es.set j e2).flatMap lI)
  rw [ef]
  exact q2
 ·have hz:z∈t1.es.set j e2:=hz
  obtain⟨z0,hz0,hk0,hc0⟩:∃z0∈t1.es,z.key=z0.key∧z.c=z0.c:=by
   rcases dB hz with h|h
   ·exact⟨z,h,rfl,rfl⟩
   ·exact⟨e,bx he,by rw [h];exact ek.1,by rw [h];exact ek.2⟩
  have hk:=u.tm.ks z0 hz0
  rw [hk0,hc0]
  refine⟨bF c2.1 hk.1 hk.2,fun ho=>?_⟩
  rcases c2.2 _ ho with h|h
  ·exact hk.2 h
  ·have:=eE hk.1;omega
theorem wY.dc {t1:DT}{h1:Hp}{Y1:Mem}{Ns:List DE}(u:wY h Y i h1 Y1 t1)(k:bY N h1 g)(gl:GL 5 h1 g a ob (Ns.flatMap lI)) (hks:∀e∈Ns,eM g e.c (e.key.map bv)∧¬Y1.own e.c∧ob≠some e.c) {p:Addr} (hp:p=(ad t1.jY).add 1) {K:Hp→Prop}
  (hK:∀h2 Y2,wY h Y i h2 Y2 {t1 with es:=Ns,sl:=a}→K h2):gZ g p∧gi (fy g p (.slice a.a a.n a.c)) K:=by
 subst hp
 obtain⟨cc,ZP,oZ⟩:∃cc,(∀b,ob=some b→eM g b cc)∧(∀b,ob=some b→a.a=some (ad b)∧a.n≤a.c∧∃ic,cc=Ns.flatMap lI++ic∧(Ns.flatMap lI).length+ic.length=a.c*5):=by
  cases ob with
  |none=>exact⟨[],nofun,nofun⟩
  |some b =>
   obtain⟨q1,q2,j,q3,q4⟩:=gl.sl.row b rfl
   exact⟨Ns.flatMap lI++j,fun b' e=>by obtain rfl:=bt e;exact q3,fun b' e=>by obtain rfl:=bt e;exact⟨q1,q2,j,rfl,q4⟩⟩
 obtain⟨s1,c1⟩:=u.sp.QC (x:=9+2*i) (k.mono fun _ _ z=>z.elim) ZP fun b e=>.inr (gl.new b e)
 have l8:(Y1.jR (9+2*i) ob cc).loc (8+2*i)=some t1.jY:=by rw [Mem.fR _ _ _ (by omega)];exact u.tm.loc
 have c8:(Y1.jR (9+2*i) ob cc).fM (8+2*i)=Iz t1:=by rw [Mem.gr _ _ _ (by omega)];exact u.tm.fM
 refine s1.st l8 (cm _ _) (by rw [c8];show 1<7;omega) fun h2 s2 c2=>hK h2 _ ⟨s2,u.rB.trans (c1.trans c2),fun x h1 h2=>?_,⟨Mem.gM ..,?_,?_,fun z hz=>?_⟩⟩
 ·rw [Mem.fR _ _ _ h1,Mem.gr _ _ _ h1,Mem.fR _ _ _ h2,Mem.gr _ _ _ h2]
  exact u.off x h1 h2
 ·rw [Mem.jT,c8];rfl
 ·have jc:kO 5 (Y1.jR (9+2*i) ob cc) (9+2*i) a (Ns.flatMap lI):=⟨gl.sl.len,fun e=>gl.sl.nil (by rwa [Mem.gM]at e),fun b e=>by rw [Mem.gM]at e;rw [Mem.jT];exact oZ b e⟩
  exact jc.oR (by omega)
 ·obtain⟨r,no,ne⟩:=hks z hz
  have n1:¬(Y1.jR (9+2*i) ob cc).own z.c:=fun⟨x,hx⟩=>by
   by_cases e:x=9+2*i
   ·subst e;rw [Mem.gM]at hx;exact ne hx
   ·rw [Mem.fR _ _ _ e]at hx;exact no ⟨x,hx⟩
  refine⟨bF c2.1 r n1,fun ho=>?_⟩
  rcases c2.2 _ ho with h|h
  ·exact n1 h
  ·have:=eE r;omega
end
def DW.gJ(W:DW)(i:Nat)(t:DT):DW:={W with de:=W.de.set i t}
def py(W:DW)(t:DT)(n:Nat):DT:=if t.od=0∧iP W.iN (W.S 0) (W.B 0) (1+n)then {t with od:=t.bk,bk:=n,mv:=0}else t
def rv(t t1:DT):Prop:=∃o m,t1={t with od:=o,mv:=m}∧(t.bk,o,m)=tM (t.bk,t.od,t.mv)
def Af(l:List DE)(x:DE):List DE:=l.take (j0 l x.hk)++x::l.drop (j0 l x.hk)
section
variable {h h' h2 g:Hp} {Y Y' Y1 Y2:Mem} {i wb cb:Nat} {t t' t1 t2:DT} {W:DW} {R:RP} {a c:Sl} {S:Nat→Prop} {key:LN} {v:Nat} {h1:Hp}
theorem wY.trans(u:wY h Y i h1 Y1 t1)(w:wY h1 Y1 i h2 Y2 t2):wY h Y i h2 Y2 t2 :=
 ⟨w.sp,u.rB.trans w.rB,fun x a b=>⟨(w.off x a b).1.trans (u.off x a b).1,(w.off x a b).2.trans (u.off x a b).2⟩,w.tm⟩
theorem rv.le(s:rv t t1)(hb:t.od≤4194304∧t.mv≤8388608):t1.od≤4194304∧t1.mv≤8388608:=by
 obtain⟨o,m,rfl,e⟩:=s
 unfold tM at e
 split at e
 ·injection e with _ e;injection e with e1 e2;subst e1 e2;exact hb
 ·split at e
  ·injection e with _ e;injection e with e1 e2;subst e1 e2;exact⟨cP _,cP _⟩
  ·rename_i h1 h2
   injection e with _ e;injection e with e1 e2
   subst e1 e2
   exact⟨hb.1,by show t.mv+16≤_;have:¬t.od≤t.mv+16:=h2;omega⟩
theorem WV.gJ(v:WV W)(hv:TV t')(he:∀e∈t'.es,e.val<W.eX.length)(hb:t'.bk≤4194304∧t'.od≤4194304∧t'.mv≤8388608∧t'.vw<100000000∧t'.hd<100000000):WV (W.gJ i t') :=
 ⟨v.iN,v.v1,v.mA,v.vz,by show (W.de.set i t').length≤_;rw [cd];exact v.tl,v.bl,v.bz,fun t ht=>by
  rcases dB ht with h|h
  ·exact v.es t h
  ·rw [h];exact⟨hv,he,hb⟩⟩
theorem KD(ht:W.de[i]?=some t):(W.gJ i t').de[i]?=some t':=cE (bp.1 ht).1
theorem HB {a:OA}{l:LV}(r:dZ h a l)(c:ui h Y h' Y')(hs:∀p,a=some p→l≠[]→¬Y.own p.block):dZ h' a l:=by
 cases a with
 |none=>exact r
 |some p =>
  intro j v hj
  have iS:l≠[]:=fun e=>by rw [e]at hj;cases hj
  have hc:=r j v hj
  have hb:(p.add j).block=p.block:=by unfold Addr.add;split<;>rfl
  have fE:(p.add j).block<h.size:=Nat.lt_of_not_le fun uc=>by
   unfold cell at hc
   rw [jh uc]at hc
   cases hc
  unfold cell at hc ⊢
  rw [c.1.2 _ fE (by rw [hb];exact hs p rfl iS)]
  exact hc
theorem acF(x:WM h Y wb W)(v:WV W)(ht:W.de[i]?=some t)(ra:dZ h a.a (key.map bv)) (na:a.n=key.length) (b8:fK key) (hsr:∀p,a.a=some p→key.map bv≠[]→¬Y.own p.block)
  {val w1 w2:Nat} (wV:val<W.eX.length) (hln:t.es.length≤4194303) (zd:t.bk≤2097152)
  (Q6:4096<key.length→R (vt #[vb false,vi 62]) h)
  (LG:∀g Y' t1 e t2,rv t t1→key.length≤4096→iB t.es (fU t.df key,key)=true→t.es[j0 t.es (fU t.df key,key)]?=some e→t2={t1 with es:=t1.es.set (j0 t.es (fU t.df key,key)) {e with val:=val,a:=w1,b:=w2}}→wY h Y i g Y' t2→R (vt #[vb false,vi 0]) g)
  (sY:∀g Y' t1,rv t t1→key.length≤4096→iB t.es (fU t.df key,key)=false→¬(iP W.iN ((W.gJ i t1).S val) ((W.gJ i t1).B val) (2+dH key.length)∧iP W.iN ((W.gJ i t1).S val+yj (2+dH key.length)) ((W.gJ i t1).B val+ym (2+dH key.length)) 7)→wY h Y i g Y' t1→R (vt #[vb false,vi 31]) g)
  (vV:∀g Y' t1 cc a' t2 t3,h.size≤cc→rv t t1→key.length≤4096→iB t.es (fU t.df key,key)=false→(iP W.iN ((W.gJ i t1).S val) ((W.gJ i t1).B val) (2+dH key.length)∧iP W.iN ((W.gJ i t1).S val+yj (2+dH key.length)) ((W.gJ i t1).B val+ym (2+dH key.length)) 7) →
   t2={t1 with es:=Af t1.es ⟨fU t.df key,key,val,w1,w2,cc⟩,sl:=a'}→TV t2→t3=(if t2.bk<t2.es.length then py (W.gJ i t2) t2 (2*t2.bk)else t2)→wY h Y i g Y' t3→R (vt #[vb true,vi 0]) g) :
  bq PG 149 #[vp (sa wb),vp (sa t.jY),.slice a.a a.n a.c,vi (val:Nat),uv w1,uv w2] h R:=by
 obtain⟨tv,Fi,b1,b2,b3,b4,b5⟩:=v.es t (bx ht)
 refine X9 ?_
 unfold ae6
 refine ca (fun fE=>Q6 (by omega)) fun uc=>?_
 have hk:key.length≤4096:=by omega
 refine YW (x.tm i t ht) x.sp (by omega) fun h1 Y1 o m u1 es1=>⟨_,rfl,?_⟩
 have st:rv t {t with od:=o,mv:=m}:=⟨o,m,rfl,es1⟩
 have Wz:=st.le ⟨b2,b3⟩
 generalize I9:({t with od:=o,mv:=m}:DT)=t1 at u1 st Wz
 have rm:t1.es=t.es:=by rw [←I9]
 have tc:t1.df=t.df:=by rw [←I9]
 have aiX:t1.bk=t.bk:=by rw [←I9]
 have Pz:t1.vw=t.vw∧t1.hd=t.hd:=by rw [←I9];exact⟨rfl,rfl⟩
 have Ia:t1.jY=t.jY:=by rw [←I9]
 clear I9 es1
 have tv1:TV t1:=⟨by rw [rm];exact tv.pw,by rw [rm,tc];exact tv.hs,by rw [tc];exact tv.sd,by rw [rm];exact tv.ln⟩
 have ra1:=HB ra u1.rB hsr
 have v1:WV (W.gJ i t1):=v.gJ tv1 (by rw [rm];exact Fi) ⟨by omega,Wz.1,Wz.2,by rw [Pz.1];exact b4,by rw [Pz.2];exact b5⟩
 have x1:WM h1 Y1 wb (W.gJ i t1):=x.up ht u1 Ia
 rw [←Ia]
 refine RO u1.tm tv1 u1.sp ra1 na b8 (by omega) fun h2 k2=>⟨_,_,rfl,?_⟩
 rw [rm,tc]
 have u2:=u1.cI k2
 have x2:=x1.cI k2
 have ra2:=fC k2 ra1
 have n2:=u2.tm.n
 rw [rm]at n2
 cases rA:iB t.es (fU t.df key,key)with
 |true =>
  obtain⟨e,he,ek⟩:=lj rA
  have za:=(bp.1 he).1
  generalize wW:j0 t.es (fU t.df key,key)=pos at *
  have he1:t1.es[pos]?=some e:=by rw [rm];exact he
  obtain⟨b,hb,ha,_⟩:=u2.tm.at u2.sp he1
  have Nu:(0:Int)≤(pos:Int)∧(pos:Int)<(t1.sl.n:Int):=(by omega)
  refine cr rfl (bw ⟨t1.sl,(u2.tm.cl u2.sp 1).trans rfl,Nu,cW ha ?_⟩)
  refine u2.stE (o:=2) (e2:={e with val:=val}) hb he1 (by rw [bu]) (by omega) rfl ⟨rfl,rfl⟩ fun h3 Y3 u3 hb3=>bw ⟨t1.sl,(u3.tm.cl u3.sp 1).trans rfl,Nu,cW ha ?_⟩
  refine u3.stE (o:=3) (e:={e with val:=val}) (e2:={e with val:=val,a:=w1}) hb3 (cE (by rw [rm];exact za)) (by rw [bu]) (by omega) rfl ⟨rfl,rfl⟩ fun h4 Y4 u4 hb4=>bw ⟨t1.sl,(u4.tm.cl u4.sp 1).trans rfl,Nu,cW ha ?_⟩
  refine u4.stE (o:=4) (e:={e with val:=val,a:=w1}) (e2:={e with val:=val,a:=w1,b:=w2}) hb4 (cE (by rw [cd,rm];exact za)) (by rw [bu]) (by omega) rfl ⟨rfl,rfl⟩ fun h5 Y5 u5 hb5=>LG h5 Y5 t1 e _ st hk rA he ?_ u5
  simp only [pJ]
 |false =>
  refine cj rfl ?_
  refine RN x2 v1 wV fun cb g rc GZ k3=>⟨_,rfl,Y6 na (by omega) ⟨_,rfl,?_⟩⟩
  have hw:dH key.length≤512:=by unfold dH;omega
  have hbd:=v1.Nu val
  have x3:=x2.cI k3
  refine MX x3.BH v.iN rc (by omega) ⟨_,rfl,?_⟩
  by_cases hr1:iP W.iN ((W.gJ i t1).S val) ((W.gJ i t1).B val) (2+dH key.length)
  ·rw [show decide (iP (W.gJ i t1).iN ((W.gJ i t1).S val) ((W.gJ i t1).B val) (2+dH key.length))=true from decide_eq_true hr1]
   refine cj rfl (Y6 na (by omega) ⟨_,rfl,aiZ rc (by omega) fun g4 rc4 k4=>⟨rfl,?_⟩⟩)
   have k04:bY N h2 g4:=cL k3 k4 fun b hb=>by omega
   have x4:=x2.cI k04
   refine MX (z:=7) x4.BH v.iN rc4 (by unfold yj ym;split<;>omega) ⟨_,rfl,?_⟩
   by_cases hr2:iP W.iN ((W.gJ i t1).S val+yj (2+dH key.length)) ((W.gJ i t1).B val+ym (2+dH key.length)) 7
   ·rw [show decide (iP (W.gJ i t1).iN ((W.gJ i t1).S val+yj (2+dH key.length)) ((W.gJ i t1).B val+ym (2+dH key.length)) 7)=true from decide_eq_true hr2]
    have u4:=u2.cI k04
    refine cj rfl (bw ⟨_,u4.tm.BH u4.sp,afI (fC k04 ra2) na b8 (by omega) (by rw [tc];exact tv.sd) fun Tl k12=>⟨_,rfl,AQ (fC (k04.trans k12) ra2) na (by omega) fun cc zC rcc ZP k13=>⟨⟨_,_,_⟩,rfl,dh fun H1 e14=>?_⟩⟩⟩)
    rw [tc]
    have Ux:eM H1 zC.size [vu 0,.slice none 0 0,vi 0,vu 0,vu 0]:=e14▸du zC #[vu 0,.slice none 0 0,vi 0,vu 0,vu 0] _
    have k14:bY N zC H1:=e14▸cF _ _ _
    clear e14
    rw [show nb zC=ad zC.size from rfl]
    refine eu Ux (i:=0) rfl (by simp) fun Nr w15 k15=>eu w15 (i:=1) (cm _ _) (by simp) fun h16 w16 k16=>eu w16 (i:=2) (cm _ _) (by simp) fun Nq w17 GU=>eu w17 (i:=3) (cm _ _) (by simp) fun h18 w18 k18=>eu w18 (i:=4) (cm _ _) (by simp) fun LX w19 k19=>?_
    have kE:bY N zC LX:=cL (cL (cL (cL (cL k14 k15 fun b hb=>by omega) k16 fun b hb=>by omega) GU fun b hb=>by omega) k18 fun b hb=>by omega) k19 fun b hb=>by omega
    generalize hX:(⟨fU t.df key,key,val,w1,w2,cc⟩:DE)=X
    have w19:eM LX zC.size (lI X):=by rw [←hX];exact w19
    clear Ux w15 w16 w17 w18 k14 k15 k16 GU k18 k19
    have asD:bY N h2 LX:=k04.trans (k12.trans (k13.trans kE))
    have rcX:eM LX cc (key.map bv):=bF kE rcc _root_.id
    have aAL:cc<zC.size:=eE rcc
    have atO:h2.size≤cc:=bP (k04.trans k12).1 ZP
    have awZ:zC.size<LX.size:=eE w19
    have hXk:X.key=key∧X.c=cc∧X.hk=(fU t.df key,key):=by rw [←hX];exact⟨rfl,rfl,rfl⟩
    clear ZP rcc kE
    have u19:=u2.cI asD
    have hnn:∀e∈t1.es,e.hk≠X.hk:=fun e he h=>by
     rw [rm]at he
     have:iB t.es (fU t.df key,key)=true:=(Eb tv.pw fun e he ek=>by rw [(tv.hs e he).1,ek]).2 ⟨e,he,by rw [hXk.2.2]at h;exact congrArg Prod.snd h⟩
     rw [this]at rA;cases rA
    have abf:j0 t.es (fU t.df key,key)≤t.es.length:=QL _ _
    have acD:Af t1.es X=t.es.take (j0 t.es (fU t.df key,key))++X::t.es.drop (j0 t.es (fU t.df key,key)):=by unfold Af;rw [hXk.2.2,rm]
    generalize wW:j0 t.es (fU t.df key,key)=pos at *
    have ew:wrap .i64 ((t1.sl.n:Int)+(1:Int))=((t.es.length+1:Nat):Int):=by rw [n2,bU (by omega) (by omega)];rfl
    have rX:eM LX zC.size (lI X):=w19
    refine bw ⟨t1.sl,(u19.tm.cl u19.sp 1).trans rfl,?_⟩
    rw [ew,bu]
    refine⟨(by omega),by omega,by omega,dh fun ZQ e20=>?_⟩
    have k20:bY N LX ZQ:=e20▸cF _ _ _
    have w20:=du LX (ja #[vu 0,.slice none 0 0,vi 0,vu 0,vu 0] ((t.es.length+1)*5)) 238
    rw [←e20]at w20
    clear e20
    have g20:GL 5 LX ZQ ⟨some (ad LX.size),0,t.es.length+1⟩ (some LX.size) (([]:List DE).flatMap lI):=⟨⟨rfl,nofun,fun b e=>by
     obtain rfl:=bt e
     exact⟨rfl,cP _,_,w20,by show 0+(ja #[vu 0,.slice none 0 0,vi 0,vu 0,vu 0] ((t.es.length+1)*5)).toList.length=(t.es.length+1)*5;rw [fx,AL];omega⟩⟩,fun b e=>by obtain rfl:=bt e;exact bH _⟩
    have u20:=u19.cI k20
    have cap:=u20.tm.cap
    rw [show nb LX=ad LX.size from rfl,bu]
    refine bw ⟨t1.sl,(u20.tm.cl u20.sp 1).trans rfl,(by omega),(by omega),?_⟩
    have arp:dZ ZQ t1.sl.a (t.es.flatMap lI):=by have:=u20.tm.QD u20.sp;rw [rm]at this;exact this
    refine⟨(t.es.take pos).flatMap lI,EK (by rw [Al gO];exact HA arp _) _,by rw [gN gO,dm,ji abf];rfl,?_⟩
    refine g20.Av (m:=pos) (ZR:=k20.1) rfl (by rw [gN gO,dm,ji abf]) (yP _) (by show (2*(0+pos)+768)*56≤2 ^ 48;omega) (by show 0+pos<2 ^ 62;omega) fun a1 c1 h21 ob1 g21 k21 azb=>?_
    have I4:bY N LX h21:=cL k20 k21 fun b e=>g20.new b e
    have ne1:∀b,ob1=some b→LX.size≤b:=fun b e=>g21.new b e
    have arw:=bF I4 rX _root_.id
    have cX:∀o,cell h21 ⟨zC.size,o,none⟩=(lI X)[o]?:=fun o=>bS arw o
    refine⟨_,(cX 0).trans rfl,⟨some (ad X.c),X.key.length,X.key.length⟩,by rw [cm];exact(cX 1).trans rfl,_,by rw [cm];exact(cX 2).trans rfl,_,by rw [cm];exact(cX 3).trans rfl,_,by rw [cm];exact(cX 4).trans rfl,?_⟩
    refine g21.add (arr:=#[uv X.hs,.slice (sa X.c) X.key.length X.key.length,wv X.val,uv X.a,uv X.b]) I4.1 rfl rfl (H9 X) (by show (2*(0+pos+1)+768)*56≤2 ^ 48;omega) (by show 0+pos+1<2 ^ 62;omega) fun a2 c2 h23 IW g23 k23 aza=>?_
    have ahl:bY N LX h23:=cL I4 k23 fun b e=>g21.new b e
    have u23:=u19.cI ahl
    refine bw ⟨t1.sl,(u23.tm.cl u23.sp 1).trans rfl,(by omega),?_⟩
    have aro:dZ h23 t1.sl.a (t.es.flatMap lI):=by have:=u23.tm.QD u23.sp;rw [rm]at this;exact this
    refine⟨(t.es.drop pos).flatMap lI,by rw [Am gO];exact CM aro _ _ (by rw [gN gO];have:=u23.tm.cap;omega),by rw [gN gO,fu,n2],?_⟩
    rw [n2]
    refine g23.Av (m:=t.es.length-pos) (ZR:=ahl.1) rfl (by rw [gN gO,fu]) (yP _) (by show (2*(0+pos+1+(t.es.length-pos))+768)*56≤2 ^ 48;omega) (by show 0+pos+1+(t.es.length-pos)<2 ^ 62;omega) fun a3 c3 h24 ob3 g24 Dm ay9=>?_
    have ahk:bY N LX h24:=cL ahl Dm fun b e=>g23.new b e
    have efl:(([]:List DE).flatMap lI++(t.es.take pos).flatMap lI++(#[uv X.hs,.slice (sa X.c) X.key.length X.key.length,wv X.val,uv X.a,uv X.b]:Array Value).toList++(t.es.drop pos).flatMap lI)=(Af t1.es X).flatMap lI:=by
     rw [acD,gW,cJ,iW,eU,ce];rfl
    rw [efl]at g24
    refine bw (u19.dc (Ns:=Af t1.es X) ahk g24 (fun e he=>?_) rfl fun h25 Y2 TW=>?_)
    ·have GX:e∈t.es∨e=X:=by
      rw [acD]at he
      rcases bI.1 he with h|h
      ·exact .inl (dK h)
      ·rcases ck.1 h with h|h
       ·exact .inr h
       ·exact .inl (lE h)
     rcases GX with h|rfl
     ·have ahT:=u19.tm.ks e (by rw [rm];exact h)
      have:=eE ahT.1
      exact⟨bF ahk ahT.1 _root_.id,ahT.2,fun e2=>by have:=g24.new _ e2;omega⟩
     ·rw [hXk.1,hXk.2.1]
      have:=eE rcX
      refine⟨bF ahk rcX _root_.id,fun ho=>?_,fun e2=>by have:=g24.new _ e2;omega⟩
      have h3:=u2.sp.zT ho
      omega
    ·have e4:({t1 with es:=Af t1.es X,sl:=⟨a3,0+pos+1+(t.es.length-pos),c3⟩}:DT).es.length=t.es.length+1:=by
      show (Af t1.es X).length=_
      rw [acD,bG,dF,dm,fu];omega
     generalize I8:({t1 with es:=Af t1.es X,sl:=⟨a3,0+pos+1+(t.es.length-pos),c3⟩}:DT)=t2 at TW e4
     have vW:t2.bk=t.bk∧t2.od=t1.od∧t2.mv=t1.mv∧t2.vw=t.vw∧t2.hd=t.hd∧t2.jY=t1.jY∧t2.df=t.df∧t2.es=Af t1.es X:=by rw [←I8];exact⟨aiX,rfl,rfl,Pz.1,Pz.2,rfl,tc,rfl⟩
     have ur:∀e∈t2.es,e∈t.es∨e=X:=fun e he=>by
      rw [vW.2.2.2.2.2.2.2,acD]at he
      rcases bI.1 he with h|h
      ·exact .inl (dK h)
      ·rcases ck.1 h with h|h
       ·exact .inr h
       ·exact .inl (lE h)
     have Kz:TV t2:=by
      refine⟨by rw [vW.2.2.2.2.2.2.2];exact ahq tv1.pw hnn,fun e he=>?_,by rw [vW.2.2.2.2.2.2.1];exact tv.sd,by omega⟩
      rw [vW.2.2.2.2.2.2.1]
      rcases ur e he with h|rfl
      ·exact tv.hs e h
      ·rw [hXk.1]
       refine⟨?_,b8,hk⟩
       have:=congrArg Prod.fst hXk.2.2
       exact this
     have v2:WV (W.gJ i t2):=v.gJ Kz (fun e he=>by
      rcases ur e he with h|rfl
      ·exact Fi e h
      ·rw [←hX];exact wV) ⟨by omega,by omega,by omega,by omega,by omega⟩
     have x25:WM h25 Y2 wb (W.gJ i t2):=x.up ht TW (by rw [vW.2.2.2.2.2.1];exact Ia)
     have nA:∀g Y3 t3,wY h25 Y2 i g Y3 t3→t3=(if t2.bk<t2.es.length then py (W.gJ i t2) t2 (2*t2.bk)else t2)→R (vt #[vb true,vi 0]) g:=fun g Y3 t3 u3 e3 =>
      vV g Y3 t1 cc ⟨a3,0+pos+1+(t.es.length-pos),c3⟩ t2 t3 (bP u1.rB.1.1 (bP k2.1 atO)) st hk rA ⟨hr1,hr2⟩ (by rw [←I8,hX]) Kz e3 (TW.trans u3)
     have n25:=TW.tm.n
     have eb:t1.jY=t2.jY:=vW.2.2.2.2.2.1.symm
     rw [eb]
     refine bw ⟨t2.sl,(TW.tm.cl TW.sp 1).trans rfl,bw ⟨_,(TW.tm.cl TW.sp 2).trans rfl,ca (fun Ue=>?_) fun hng=>?_⟩⟩
     ·have e2b:wrap .i64 ((2:Int)*(t2.bk:Int))=((2*t2.bk:Nat):Int):=by rw [bU (by omega) (by omega)];rfl
      refine bw ⟨_,(TW.tm.cl TW.sp 2).trans rfl,?_⟩
      rw [e2b]
      refine Y8 x25 v2 (KD ht) (by omega) fun g Y3 t3 u3 e3=>⟨rfl,nA g Y3 t3 u3 ?_⟩
      rw [if_pos (by omega),e3];rfl
     ·exact nA h25 Y2 t2 (wY.refl TW.tm TW.sp) (by rw [if_neg (by omega)])
   ·rw [show decide (iP (W.gJ i t1).iN ((W.gJ i t1).S val+yj (2+dH key.length)) ((W.gJ i t1).B val+ym (2+dH key.length)) 7)=false from decide_eq_false hr2]
    exact cr rfl (sY g4 Y1 t1 st hk rA (fun h=>hr2 h.2) (u2.cI k04))
  ·rw [show decide (iP (W.gJ i t1).iN ((W.gJ i t1).S val) ((W.gJ i t1).B val) (2+dH key.length))=false from decide_eq_false hr1]
   exact cr rfl (sY g Y1 t1 st hk rA (fun h=>hr1 h.1) (u2.cI k3))
end
def oF(l:List DE)(n:Nat):List DE:=l.take n++l.drop (n+1)
theorem acG {l:List DE}{n:Nat}(h:(l.map DE.hk).Pairwise kV):((oF l n).map DE.hk).Pairwise kV:=by
 unfold oF
 rw [cx]
 have h1:(l.map DE.hk)=(l.take n).map DE.hk++(l.drop n).map DE.hk:=by rw [←cx,eZ]
 rw [h1]at h
 refine h.sublist (List.Sublist.append (mZ _) (List.Sublist.map _ ?_))
 rw [←tA]
 exact pN _ _
section
variable {h h2 g:Hp} {Y Y' Y1 Y2:Mem} {i wb:Nat} {t t1 t2:DT} {W:DW} {R:RP} {a c:Sl} {key:LN} {v:Nat} {h1:Hp}
theorem RR(x:WM h Y wb W)(v:WV W)(ht:W.de[i]?=some t)(ra:dZ h a.a (key.map bv)) (na:a.n=key.length) (b8:fK key) (zb:key.length≤140737488351232) (hsr:∀p,a.a=some p→key.map bv≠[]→¬Y.own p.block)
  (wX:∀g Y' t1,rv t t1→iB t.es (fU t.df key,key)=false→wY h Y i g Y' t1→R (vi 63) g)
  (vV:∀g Y' t1 a' t2 t3,rv t t1→iB t.es (fU t.df key,key)=true→t2={t1 with es:=oF t1.es (j0 t.es (fU t.df key,key)),sl:=a'}→TV t2→t3=(if 4<t2.bk∧4*t2.es.length<t2.bk then py (W.gJ i t2) t2 (t2.bk / 2)else t2)→wY h Y i g Y' t3→R (vi 0) g) :
  bq PG 147 #[vp (sa wb),vp (sa t.jY),.slice a.a a.n a.c] h R:=by
 obtain⟨tv,Fi,b1,b2,b3,b4,b5⟩:=v.es t (bx ht)
 have tln:=tv.ln
 refine Yb ?_
 unfold ae8
 refine YW (x.tm i t ht) x.sp (by omega) fun h1 Y1 o m u1 es1=>⟨_,rfl,?_⟩
 have st:rv t {t with od:=o,mv:=m}:=⟨o,m,rfl,es1⟩
 have Wz:=st.le ⟨b2,b3⟩
 generalize I9:({t with od:=o,mv:=m}:DT)=t1 at u1 st Wz
 have rm:t1.es=t.es:=by rw [←I9]
 have tc:t1.df=t.df:=by rw [←I9]
 have aiX:t1.bk=t.bk:=by rw [←I9]
 have Pz:t1.vw=t.vw∧t1.hd=t.hd:=by rw [←I9];exact⟨rfl,rfl⟩
 have Ia:t1.jY=t.jY:=by rw [←I9]
 clear I9 es1
 have tv1:TV t1:=⟨by rw [rm];exact tv.pw,by rw [rm,tc];exact tv.hs,by rw [tc];exact tv.sd,by rw [rm];exact tv.ln⟩
 have ra1:=HB ra u1.rB hsr
 rw [←Ia]
 refine RO u1.tm tv1 u1.sp ra1 na b8 zb fun h2 k2=>⟨_,_,rfl,?_⟩
 rw [rm,tc]
 have u2:=u1.cI k2
 have n2:=u2.tm.n
 rw [rm]at n2
 cases rA:iB t.es (fU t.df key,key)with
 |false=>exact cr rfl (wX h2 Y1 t1 st rA u2)
 |true =>
  obtain⟨e,he,ek⟩:=lj rA
  have za:=(bp.1 he).1
  generalize wW:j0 t.es (fU t.df key,key)=pos at *
  refine cj rfl (bw ⟨t1.sl,(u2.tm.cl u2.sp 1).trans rfl,?_⟩)
  rw [n2,bu]
  refine⟨(by omega),by omega,by omega,dh fun h3 e3=>?_⟩
  have k3:bY N h2 h3:=e3▸cF _ _ _
  have w3:=du h2 (ja #[vu 0,.slice none 0 0,vi 0,vu 0,vu 0] (t.es.length*5)) 238
  rw [←e3]at w3
  clear e3
  have g3:GL 5 h2 h3 ⟨some (ad h2.size),0,t.es.length⟩ (some h2.size) (([]:List DE).flatMap lI):=⟨⟨rfl,nofun,fun b e=>by
   obtain rfl:=bt e
   exact⟨rfl,cP _,_,w3,by show 0+(ja #[vu 0,.slice none 0 0,vi 0,vu 0,vu 0] (t.es.length*5)).toList.length=t.es.length*5;rw [fx,AL];omega⟩⟩,fun b e=>by obtain rfl:=bt e;exact bH _⟩
  have u3:=u2.cI k3
  have cap:=u3.tm.cap
  rw [show nb h2=ad h2.size from rfl,bu]
  refine bw ⟨t1.sl,(u3.tm.cl u3.sp 1).trans rfl,(by omega),(by omega),?_⟩
  have rd3:dZ h3 t1.sl.a (t.es.flatMap lI):=by have:=u3.tm.QD u3.sp;rw [rm]at this;exact this
  refine⟨(t.es.take pos).flatMap lI,EK (by rw [Al gO];exact HA rd3 _) _,by rw [gN gO,dm,ji (by omega)];rfl,?_⟩
  refine g3.Av (m:=pos) (ZR:=k3.1) rfl (by rw [gN gO,dm,ji (by omega)]) (yP _) (by show (2*(0+pos)+768)*56≤2 ^ 48;omega) (by show 0+pos<2 ^ 62;omega) fun a1 c1 h4 ob1 g4 k4 nw4=>?_
  have Dm:bY N h2 h4:=cL k3 k4 fun b e=>g3.new b e
  have u4:=u2.cI Dm
  have ep:wrap .i64 ((pos:Int)+(1:Int))=((pos+1:Nat):Int):=by rw [bU (by omega) (by omega)];rfl
  rw [ep,bu]
  refine bw ⟨t1.sl,(u4.tm.cl u4.sp 1).trans rfl,(by omega),?_⟩
  have rd4:dZ h4 t1.sl.a (t.es.flatMap lI):=by have:=u4.tm.QD u4.sp;rw [rm]at this;exact this
  refine⟨(t.es.drop (pos+1)).flatMap lI,by rw [Am gO];exact CM rd4 _ _ (by rw [gN gO];have:=u4.tm.cap;omega),by rw [gN gO,fu,n2],?_⟩
  rw [n2]
  refine g4.Av (m:=t.es.length-(pos+1)) (ZR:=Dm.1) rfl (by rw [gN gO,fu]) (yP _) (by show (2*(0+pos+(t.es.length-(pos+1)))+768)*56≤2 ^ 48;omega) (by show 0+pos+(t.es.length-(pos+1))<2 ^ 62;omega) fun a3 c3 h5 ob3 g5 k5 nw5=>?_
  have k25:bY N h2 h5:=cL Dm k5 fun b e=>g4.new b e
  have efl:([]:List DE).flatMap lI++(t.es.take pos).flatMap lI++(t.es.drop (pos+1)).flatMap lI=(oF t1.es pos).flatMap lI:=by
   unfold oF
   rw [rm,gW,iW,eU]
  rw [efl]at g5
  have ur:∀e∈oF t1.es pos,e∈t.es:=fun e he=>by
   unfold oF at he
   rw [rm]at he
   rcases bI.1 he with h|h
   ·exact dK h
   ·exact lE h
  refine bw (u2.dc (Ns:=oF t1.es pos) k25 g5 (fun e he=>?_) rfl fun h6 Y2 u6=>?_)
  ·have hk:=u2.tm.ks e (by rw [rm];exact ur e he)
   have:=eE hk.1
   exact⟨bF k25 hk.1 _root_.id,hk.2,fun e2=>by have:=g5.new _ e2;omega⟩
  ·have e4:({t1 with es:=oF t1.es pos,sl:=⟨a3,0+pos+(t.es.length-(pos+1)),c3⟩}:DT).es.length+1=t.es.length:=by
    show (oF t1.es pos).length+1=_
    unfold oF
    rw [rm,bG,dm,fu];omega
   have ag4:∀e∈({t1 with es:=oF t1.es pos,sl:=⟨a3,0+pos+(t.es.length-(pos+1)),c3⟩}:DT).es,e∈t.es:=ur
   have pw':(({t1 with es:=oF t1.es pos,sl:=⟨a3,0+pos+(t.es.length-(pos+1)),c3⟩}:DT).es.map DE.hk).Pairwise kV:=acG tv1.pw
   have fl':({t1 with es:=oF t1.es pos,sl:=⟨a3,0+pos+(t.es.length-(pos+1)),c3⟩}:DT)={t1 with es:=oF t1.es pos,sl:=⟨a3,0+pos+(t.es.length-(pos+1)),c3⟩}:=rfl
   have LS:({t1 with es:=oF t1.es pos,sl:=⟨a3,0+pos+(t.es.length-(pos+1)),c3⟩}:DT).bk=t.bk∧({t1 with es:=oF t1.es pos,sl:=⟨a3,0+pos+(t.es.length-(pos+1)),c3⟩}:DT).od=t1.od∧({t1 with es:=oF t1.es pos,sl:=⟨a3,0+pos+(t.es.length-(pos+1)),c3⟩}:DT).mv=t1.mv∧({t1 with es:=oF t1.es pos,sl:=⟨a3,0+pos+(t.es.length-(pos+1)),c3⟩}:DT).vw=t.vw∧({t1 with es:=oF t1.es pos,sl:=⟨a3,0+pos+(t.es.length-(pos+1)),c3⟩}:DT).hd=t.hd∧({t1 with es:=oF t1.es pos,sl:=⟨a3,0+pos+(t.es.length-(pos+1)),c3⟩}:DT).jY=t1.jY∧({t1 with es:=oF t1.es pos,sl:=⟨a3,0+pos+(t.es.length-(pos+1)),c3⟩}:DT).df=t.df:=⟨aiX,rfl,rfl,Pz.1,Pz.2,rfl,tc⟩
   generalize I8:({t1 with es:=oF t1.es pos,sl:=⟨a3,0+pos+(t.es.length-(pos+1)),c3⟩}:DT)=t2 at u6 e4 ag4 pw' LS
   obtain⟨vW,Ww,hm2,Wm,hd2,ank,hs2⟩:=LS
   have Kz:TV t2:=⟨pw',fun e he=>by rw [hs2];exact tv.hs e (ag4 e he),by rw [hs2];exact tv.sd,by omega⟩
   have v2:WV (W.gJ i t2):=v.gJ Kz (fun e he=>Fi e (ag4 e he)) ⟨by omega,by omega,by omega,by omega,by omega⟩
   have x6:WM h6 Y2 wb (W.gJ i t2):=x.up ht u6 (by rw [ank];exact Ia)
   have nA:∀g Y3 t3,wY h6 Y2 i g Y3 t3→t3=(if 4<t2.bk∧4*t2.es.length<t2.bk then py (W.gJ i t2) t2 (t2.bk / 2)else t2)→R (vi 0) g:=fun g Y3 t3 w3 e3 =>
    vV g Y3 t1 ⟨a3,0+pos+(t.es.length-(pos+1)),c3⟩ t2 t3 st rA I8.symm Kz e3 (u6.trans w3)
   have n6:=u6.tm.n
   rw [show t1.jY=t2.jY from ank.symm]
   refine bw ⟨_,(u6.tm.cl u6.sp 2).trans rfl,ca (fun Ue=>?_) fun hng=>?_⟩
   ·refine bw ⟨t2.sl,(u6.tm.cl u6.sp 1).trans rfl,bw ⟨_,(u6.tm.cl u6.sp 2).trans rfl,?_⟩⟩
    have e4b:wrap .i64 ((4:Int)*(t2.sl.n:Int))=((4*t2.es.length:Nat):Int):=by rw [n6,bU (by omega) (by omega)];rfl
    rw [e4b]
    unfold Jz
    refine ca (fun fE=>?_) fun hnl=>?_
    ·have e2b:wrap .i64 (Int.tdiv (t2.bk:Int) (2:Int))=((t2.bk / 2:Nat):Int):=by
      rw [show ((2:Int))=((2:Nat):Int)from rfl,←tC]
      exact bU (by omega) (by omega)
     refine bw ⟨_,(u6.tm.cl u6.sp 2).trans rfl,by omega,?_⟩
     rw [e2b]
     refine Y8 x6 v2 (KD ht) (by omega) fun g Y3 t3 w3 e3=>⟨rfl,nA g Y3 t3 w3 ?_⟩
     rw [if_pos (by omega),e3];rfl
    ·exact nA h6 Y2 t2 (wY.refl u6.tm u6.sp) (by rw [if_neg (by omega)])
   ·unfold Jz
    exact cj rfl (nA h6 Y2 t2 (wY.refl u6.tm u6.sp) (by rw [if_neg (by omega)]))
end
structure Nj (h:Hp) (jY:Nat) (es:List DE):Prop where
 ex:∃sl:Sl,cell h ((ad jY).add 1)=some (.slice sl.a sl.n sl.c)∧sl.n=es.length∧∀j e,es[j]?=some e→∃b,sl.a=some (ad b)∧∀o,o<5→cell h (((ad b).add (j*5)).add o)=(lI e)[o]?
 ks:∀e∈es,eM h e.c (e.key.map bv)
 kl:∀e∈es,e.key.length≤4096∧fK e.key
 pw:(es.map DE.hk).Pairwise kV
 ln:es.length≤4194304
section
variable {h h' g:Hp} {Y:Mem} {i jY f:Nat} {t:DT} {R:RP} {a c:Sl} {v:Nat} {ob:Option Nat} {h1:Hp} {es:List DE}
theorem TM.auw(x:TM h Y i t)(sp:Sep h Y)(v:TV t):Nj h t.jY t.es :=
 ⟨⟨t.sl,(x.cl sp 1).trans rfl,x.n,fun j e he=>by obtain⟨b,_,ha,hc⟩:=x.at sp he;exact⟨b,ha,hc⟩⟩,fun e he=>(x.ks e he).1,fun e he=>⟨(v.hs e he).2.2,(v.hs e he).2.1⟩,v.pw,v.ln⟩
theorem YP {vs:LV}(r:eM h jY vs)(e:vs[1]?=some (.slice none 0 0)):Nj h jY [] :=
 ⟨⟨⟨none,0,0⟩,by rw [cm,bS r 1];exact e,rfl,nofun⟩,nofun,nofun,List.Pairwise.nil,cP _⟩
theorem Nj.cI(x:Nj h jY es)(k:bY N h h'):Nj h' jY es:=by
 obtain⟨⟨sl,c,n,TJ⟩,ks,kl,pw,ln⟩:=x
 refine⟨⟨sl,qP k c,n,fun j e he=>?_⟩,fun e he=>bF k (ks e he) _root_.id,kl,pw,ln⟩
 obtain⟨b,ha,hc⟩:=TJ j e he
 refine⟨b,ha,fun o ho=>?_⟩
 obtain⟨w,hw⟩:∃w,(lI e)[o]?=some w:=⟨_,br (by rw [gO];exact ho)⟩
 have:=hc o ho
 rw [hw]at this ⊢
 exact qP k this
def sX(es:List DE)(f:Nat):List HK:=(es.map DE.hk).filter fun x=>decide (f≤x.1)
theorem WB {x y:HK}(h:kV x y):x.1≤y.1:=by
 rcases qZ.1 h with h|h
 ·exact ms h
 ·exact Nat.le_of_eq h.1
theorem YX(x:Nj h jY es)(z:Int)(hz:-9223372036854775808≤z∧z<9223372036854775808)
  (hR:∀a ob gw g,BL h g a ob gw→gw.map (·.key)=(jZ (mR z) (sX es f) 0 []).2→(∀y∈gw,y.key.length≤4096∧fK y.key)→bY N h g→R (vt #[uv (jZ (mR z) (sX es f) 0 []).1,.slice a.a a.n a.c]) g) :
  bq PG 152 #[vp (sa jY),uv f,vi z] h R:=by
 have ln:=x.ln
 have main:Jy (sa jY) (f:Int) (mR z:Int) h R:=by
  unfold Jy
  have Q5:1≤mR z:=by unfold mR;split<;>omega
  generalize hn:mR z=n at *
  refine Mt (s8:=⟨none,0,0⟩) (fun m s0 s1 s2 s8 s9 g=>∃(i mP:Nat) (ob:Option Nat) (gw:List Nm),i≤es.length∧m=es.length-i∧some (ad jY)=s0∧s1=(f:Int)∧s2=(n:Int)∧s9=(i:Int)∧BL h g s8 ob gw∧(∀y∈gw,y.key.length≤4096∧fK y.key)∧bY N h g∧jZ n (sX es f) 0 []=jZ n (sX (es.drop i) f) mP (gw.map (·.key))∧(gw≠[]→1≤i∧∃e,es[i-1]?=some e∧e.hs=mP∧f≤e.hs)∧gw.length≤i) es.length
   ⟨0,0,none,[],cP _,rfl,rfl,rfl,rfl,rfl,BL.nil _ _,nofun,bY.refl _ _,rfl,fun h=>absurd rfl h,bH _⟩ ?_
  rintro m s0 s1 s2 s8 s9 g0 g ⟨i,mP,ob,gw,hi,rfl,rfl,rfl,rfl,rfl,bl,l8,kg,Ns,aed,AJ⟩
  have xg:=x.cI kg
  obtain⟨sl,hc,Kl,yL⟩:=xg.ex
  have bln:=bl.len
  unfold Pb
  refine bw ⟨sl,hc,ca (fun fE=>?_) fun o5=>?_⟩
  ·have iZ:i<es.length:=by omega
   have he:es[i]?=some (es[i]'iZ):=br iZ
   have WE:=wg he
   generalize es[i]'iZ=e at he WE
   have WC:=bx he
   obtain⟨b,ha,Jj⟩:=yL i e he
   have Nu:(0:Int)≤(i:Int)∧(i:Int)<(sl.n:Int):=(by omega)
   have hd:sX (es.drop i) f=if f≤e.hs then e.hk::sX (es.drop (i+1)) f else sX (es.drop (i+1)) f:=by
    unfold sX
    rw [WE,cU,eP]
    show (if decide (f≤e.hs)=true then _ else _)=_
    by_cases h:f≤e.hs
    ·rw [if_pos (decide_eq_true h),if_pos h]
    ·rw [if_neg (by rw [decide_eq_true_eq];exact h),if_neg h]
   refine bw ⟨sl,hc,Nu,cW ha ⟨_,by rw [bu];exact(Jj 0 (by omega)).trans rfl,ca (fun LI=>?_) fun am6=>?_⟩⟩
   ·unfold Jx
    have atp:¬f≤e.hs:=by omega
    rw [hd,if_neg atp]at Ns
    refine⟨es.length-(i+1),by omega,i+1,mP,ob,gw,iZ,rfl,rfl,rfl,rfl,by rw [bU (by omega) (by omega)];rfl,bl,l8,kg,Ns,fun iS=>?_,by omega⟩
    exfalso
    obtain⟨h1,e0,Oz,_,Tf⟩:=aed iS
    have:=EO x.pw (i:=i-1) (j:=i) (by omega) (by rw [bD,Oz];rfl) (by rw [bD,he];rfl)
    have:=WB this
    have h3:e0.hs≤e.hs:=this
    omega
   ·have am5:f≤e.hs:=by omega
    rw [hd,if_pos am5]at Ns
    have fM:¬(n≤gw.length∧e.hs≠mP)→Fz (fun m s0 s1 s2 s8 s9 g=>∃(i mP:Nat) (ob:Option Nat) (gw:List Nm),i≤es.length∧m=es.length-i∧some (ad jY)=s0∧s1=(f:Int)∧s2=(n:Int)∧s9=(i:Int)∧BL h g s8 ob gw∧(∀y∈gw,y.key.length≤4096∧fK y.key)∧bY N h g∧jZ n (sX es f) 0 []=jZ n (sX (es.drop i) f) mP (gw.map (·.key))∧(gw≠[]→1≤i∧∃e,es[i-1]?=some e∧e.hs=mP∧f≤e.hs)∧gw.length≤i) (es.length-i) (sa jY) (f:Nat) (n:Nat) s8 (i:Nat) (e.hs:Nat) false g R:=fun Q9=>by
     unfold Fz
     refine cj rfl (bw ⟨sl,hc,Nu,cW ha ⟨⟨some (ad e.c),e.key.length,e.key.length⟩,by rw [bu];exact(Jj 1 (by omega)).trans rfl,?_⟩⟩)
     have zb:=x.kl e WC
     refine AQ (l:=e.key) (lq (xg.ks e WC)) rfl (by omega) fun cc g1 rc ZP k1=>⟨⟨_,_,_⟩,rfl,?_⟩
     have bl1:=bl.cI k1
     refine bl1.add (y:=⟨0,e.key,cc⟩) (bP kg.1 k1.1) rc (bP kg.1 ZP) (fun e2=>by have:cc<g.size:=bl.gl.lt e2;omega) (fun w hw e2=>by have e3:w.c=cc:=e2;have:=eE (bl.row w hw).1;omega) (by omega) fun a' c' g2 jK bl2 k2 nw2=>?_
     unfold Jx
     refine⟨es.length-(i+1),by omega,i+1,e.hs,jK,gw++[⟨0,e.key,cc⟩],iZ,rfl,rfl,rfl,rfl,by rw [bU (by omega) (by omega)];rfl,bl2,fun y hy=>?_,cL (kg.trans k1) k2 fun b e=>bl1.gl.new b e,?_,fun _=>⟨by omega,e,by rw [jC];exact he,rfl,am5⟩,by rw [bG];show gw.length+1≤_;omega⟩
     ·rcases bI.1 hy with hy|hy
      ·exact l8 y hy
      ·rw [bM.1 hy];exact zb
     ·rw [Ns,show e.hk=(e.hs,e.key)from rfl,jZ,if_neg (by rw [bA];exact Q9),cx];rfl
    refine ca (fun sY=>?_) fun hnf=>fM fun h=>by omega
    have iS:gw≠[]:=fun e2=>by rw [e2]at bln;simp at bln;omega
    obtain⟨h1,e0,Oz,hl0,_⟩:=aed iS
    obtain⟨b0,ha0,atN⟩:=yL (i-1) e0 Oz
    have ei:wrap .i64 ((i:Int)-(1:Int))=((i-1:Nat):Int):=by rw [bU (by omega) (by omega)];omega
    rw [ei]
    refine bw ⟨sl,hc,(by omega),cW ha0 ⟨_,by rw [bu];exact(atN 0 (by omega)).trans rfl,?_⟩⟩
    by_cases hq:e.hs=e0.hs
    ·rw [show ((e.hs:Int) != (e0.hs:Int))=false from bne_eq_false_iff_eq.2 (by omega)]
     exact fM fun h=>h.2 (by omega)
    ·rw [show ((e.hs:Int) != (e0.hs:Int))=true from bne_iff_ne.2 (by omega)]
     unfold Fz
     have es2:jZ n (sX es f) 0 []=(e.hs,gw.map (·.key)):=by
      rw [Ns,show e.hk=(e.hs,e.key)from rfl,jZ,if_pos ⟨by rw [bA];omega,by omega⟩]
     have:=hR s8 ob gw g bl (by rw [es2]) l8 kg
     rw [es2]at this
     exact cr rfl this
  ·obtain rfl:i=es.length:=by omega
   have es2:jZ n (sX es f) 0 []=(0,gw.map (·.key)):=by
    rw [Ns,gv];rfl
   have:=hR s8 ob gw g bl (by rw [es2]) l8 kg
   rw [es2]at this
   exact this
 refine X6 ?_
 unfold ae3
 refine ca (fun fE=>?_) fun o5=>?_
 ·have e:mR z=1:=by unfold mR;rw [if_pos (by omega)]
  rw [e]at main
  exact main
 ·have e:(mR z:Int)=z:=by unfold mR;rw [if_neg (by omega)];omega
  rw [e]at main
  exact main
theorem Td(es:List DE):sX es 0=es.map DE.hk:=nY.2 fun x _=>by simp
theorem Ib(es:List DE):jZ (mR (es.length:Nat)) (sX es 0) 0 []=(0,es.map (·.key)):=by
 rw [Td,BR _ _ _ (by have:=HF es.length;simpa using this),eU,fh]
 rfl
theorem aoJ(x:Nj h jY es)(hR:∀a g ks,KS g a ks→ks.Perm (es.map (·.key))→ks.Pairwise (fun x y=>oD x y=true)→bY N h g→R (.slice a.a a.n a.c) g) :
  bq PG 153 #[vp (sa jY)] h R:=by
 have ln:=x.ln
 obtain⟨sl,hc,Kl,_⟩:=x.ex
 refine X5 ?_
 unfold ae2
 refine bw ⟨sl,hc,?_⟩
 rw [Kl]
 refine YX (f:=0) x _ (by omega) fun a ob gw g bl el l8 kg=>⟨_,a,rfl,?_⟩
 rw [Ib]at el
 have hl:=congrArg List.length el
 rw [bA,bA]at hl
 refine Z0 es.length (by rw [bA];omega) (by rw [bA];omega) (bl.KA fun y hy=>by have:=(l8 y hy).1;omega) fun c g2 ks kx p s k=>⟨c,rfl,hR c g2 ks kx (by rw [el]at p;exact p) s (kg.trans k)⟩
end
def zM(z:Nat × Nat):di:=⟨200,[],z.2::List.replicate (z.1-2) 0⟩
theorem ZZ {z:Nat × Nat}(h:2≤z.1):(zM z).sz=z.1:=by
 unfold zM di.sz
 simp only [List.length_nil,dF,fq]
 omega
abbrev Sb:=Nat × LN × Nat × Nat × Nat
def DE.q(vo:LN)(e:DE):Sb:=(e.hs,e.key,vo.getD e.val 0,e.a,e.b)
def iM.q(x:iM):Sb:=(x.hs,x.key,x.r,x.a,x.b)
structure lZ (nd:List di) (vo:LN) (t:DT) (T:TD):Prop where
 c:yT nd T
 k:oH T
 df:T.df=t.df
 sh:(t.bk,t.od,t.mv)=T.sE
 es:(t.es.map (DE.q vo)).Perm (T.dc.map iM.q)
 mA:∀e∈t.es,e.val<vo.length
def lY(gy lv:LN):LN:=((gy.zip lv).filter fun p=>decide (0<p.1)).map (·.2)
structure qK (nd:List di) (bC:List (Option Nat)) (W:DW) (vo:LN) (to:List TD) (lv:LN):Prop where
 ll:lv.length=W.gy.length
 mA:vo.length=W.eX.length
 tl:to.length=W.de.length
 v0:vo[0]?=some 0
 vn:∀(i:Nat) o z,1≤i→vo[i]?=some o→W.eX[i]?=some z→nd[o]?=some (zM z)∧o≠0∧2≤z.1
 vd:vo.Nodup
 tb:∀(i:Nat) t T,W.de[i]?=some t→to[i]?=some T→t.ib=true→lZ nd vo t T∧∀x∈T.dN,x∉vo
 dj:∀(i j:Nat) t t' T T',W.de[i]?=some t→W.de[j]?=some t'→to[i]?=some T→to[j]?=some T'→t.ib=true→t'.ib=true→i≠j→∀x∈T.dN,x∉T'.dN
 rt:∀r,r≠0→(some r∈bC↔(∃(i:Nat) (t:DT) (T:TD),W.de[i]?=some t∧to[i]?=some T∧t.ib=true∧r=T.t)∨∃v∈lY W.gy lv,vo[v]?=some r)
 bl:∀p∈W.gy.zip lv,0<p.1→1≤p.2∧∃m,W.eX[p.2]?=some (p.1,m)
 bd:(lY W.gy lv).Nodup
 bs:∀v∈lY W.gy lv,∀t∈W.de,t.ib=true→∀e∈t.es,e.val≠v
section
variable {nd:List di} {bC:List (Option Nat)} {W:DW} {vo:LN} {to:List TD} {lv:LN} {t:DT} {T:TD} {dN:LN}
theorem yT.Uj(c:yT nd T){x:iM}(hx:x∈T.dc):∃n,MS nd x n∧(n=0∨n∈T.dN):=by
 rw [←T.vA]at hx
 obtain⟨A,hA,hx⟩:=mf.1 hx
 have ok:=c.arr A hA
 obtain⟨i,d,hd,hxd⟩:=iC hx
 obtain⟨p,u,rfl⟩:=oL hxd
 have hs:=(ok.s i _ hd).1
 rw [ou]at hs
 refine⟨_,hs.2.1,?_⟩
 cases u with
 |nil=>exact .inl rfl
 |cons y u =>
  right
  exact TD.pq (ok.e y (dY.2 ⟨_,bx hd,by simp⟩))
theorem yT.cl(c:yT nd T){i y:Nat}{m:di}(hi:i∈T.dN)(hm:nd[i]?=some m)(hy:y∈m.cY)(h0:y≠0):y∈T.dN∨∃e∈T.dc,y=e.r:=by
 have aoT:∀A∈T.lJ,i=A.id→y∈T.dN:=fun A hA e=>by
  have ok:=c.arr A hA
  rw [e,ok.n]at hm
  obtain rfl:=bt hm
  obtain⟨d,hd,rfl⟩:=cy.1 hy
  cases d with
  |nil=>exact absurd rfl h0
  |cons x d=>exact TD.pq (ok.e x (dY.2 ⟨_,hd,bQ ..⟩))
 unfold TD.dN at hi
 rcases bI.1 hi with hi|hi
 ·unfold TD.nV at hi
  rcases ck.1 hi with rfl|hi
  ·rw [c.g.tn]at hm
   obtain rfl:=bt hm
   have hy:y=T.nw.id∨y=T.CU:=by simpa using hy
   rcases hy with rfl|rfl
   ·exact .inl T.nU
   ·cases ho:T.od with
    |none=>rw [TD.uV ho]at h0;exact absurd rfl h0
    |some o=>rw [TD.qV ho];exact .inl (TD.rG ho)
  ·rcases ck.1 hi with rfl|hi
   ·exact .inl (aoT T.nw (bQ ..) rfl)
   ·cases ho:T.od with
    |none=>rw [ho]at hi;cases hi
    |some o =>
     rw [ho]at hi
     have:i=o.id:=by simpa using hi
     exact .inl (aoT o (by unfold TD.lJ;rw [ho];simp) this)
 ·obtain⟨x,hx,hix⟩:=iR.1 hi
  obtain⟨n,ok,hn⟩:=c.Uj hx
  rcases hix with rfl|rfl
  ·rw [ok.1]at hm
   obtain rfl:=bt hm
   have hy:y=n∨y=x.k∨y=x.r:=by simpa [iM.node]using hy
   rcases hy with rfl|rfl|rfl
   ·exact .inl (hn.resolve_left h0)
   ·exact .inl (TD.EZ hx)
   ·exact .inr ⟨x,hx,rfl⟩
  ·rw [ok.2.1]at hm
   obtain rfl:=bt hm
   cases hy
theorem yx {i:Nat}{m:di}(h:nd[i]?=some m):RS.qf nd i=m.sz:=by unfold RS.qf;rw [h];rfl
theorem lZ.pR(r:lZ nd vo t T)(hl:t.ib=true):(T.dN.map (RS.qf nd)).Perm t.pR:=by
 have c:=r.c
 have he:∀l:List iM,(∀x∈l,x∈T.dc)→(iX l).map (RS.qf nd)=l.flatMap fun x=>[7,2+dH x.key.length]:=fun l hl=>by
  induction l with
  |nil=>rfl
  |cons x l ih =>
   obtain⟨n,ok,_⟩:=c.Uj (hl x (bQ ..))
   rw [gS,cU,cU,cJ,ih fun y hy=>hl y (bJ _ hy),yx ok.1,yx ok.2.1]
   have e1:(x.node n).sz=7:=rfl
   have e2:(oV x.key).sz=2+dH x.key.length:=by
    unfold oV di.sz
    rw [ok.2.2.is.len]
    simp only [List.length_nil]
    omega
   rw [e1,e2];rfl
 have hp:(T.dc.flatMap fun x=>[7,2+dH x.key.length]).Perm (t.es.flatMap DE.pR):=by
  have h1:(T.dc.flatMap fun x=>[7,2+dH x.key.length])=(T.dc.map iM.q).flatMap fun x=>[7,2+dH x.2.1.length]:=by rw [qE];rfl
  have h2:t.es.flatMap DE.pR=(t.es.map (DE.q vo)).flatMap fun x=>[7,2+dH x.2.1.length]:=by rw [qE];rfl
  rw [h1,h2]
  exact(r.es.symm).flatMap_right _
 have h3:=r.sh
 unfold TD.dN TD.nV DT.pR
 rw [if_pos hl,cx,he T.dc fun _ h=>h,cU,cU,yx c.g.tn,yx c.g.wn]
 have e1:(⟨4,[T.nw.id,T.CU],[T.df,T.dc.length,T.mv]⟩:di).sz=6:=rfl
 have e2:(⟨5,T.nw.cs.map lL,[]⟩:di).sz=1+t.bk:=by
  have:t.bk=2 ^ T.nw.j:=congrArg (·.1) h3
  unfold di.sz
  rw [bA,c.g.ln,this];rfl
 rw [e1,e2]
 refine List.Perm.cons _ (List.Perm.cons _ (List.Perm.append ?_ hp))
 cases ho:T.od with
 |none =>
  rw [uM ho]at h3
  have:t.od=0:=congrArg (·.2.1) h3
  rw [this]
  exact fT _
 |some o =>
  rw [sL ho]at h3
  have e:t.od=2 ^ o.j:=congrArg (·.2.1) h3
  have hp:=two_pos o.j
  rw [if_pos (by omega)]
  show List.Perm [RS.qf nd o.id] _
  rw [yx (c.g.wo o ho)]
  have e3:(⟨5,tN (o.cs.map lL) T.mv none,[]⟩:di).sz=1+t.od:=by
   unfold di.sz
   rw [uJ,bA,c.g.F3 o ho,e];rfl
  rw [e3]
def Eg(W:DW)(to:List TD):LN:=(W.de.zip to).flatMap fun p=>if p.1.ib then p.2.dN else []
def tR(W:DW)(v:Nat):LN:=(List.range' 1 (W.eX.length-1)).filter (W.seen v)
def sq(W:DW)(vo:LN)(to:List TD)(lv:LN)(v:Nat):LN:=(lY W.gy lv).map (fun i=>vo.getD i 0)++(Eg W to++(tR W v).map fun i=>vo.getD i 0)
theorem jq {i o:Nat}(h:vo[i]?=some o):vo.getD i 0=o:=by rw [bB,h];rfl
theorem p9 {x:Nat}:x∈Eg W to↔∃(i:Nat) (t:DT) (T:TD),W.de[i]?=some t∧to[i]?=some T∧t.ib=true∧x∈T.dN:=by
 unfold Eg
 rw [mf]
 constructor
 ·rintro⟨p,hp,hx⟩
  obtain⟨i,hi⟩:=bT.1 hp
  obtain⟨t,T⟩:=p
  rw [d6]at hi
  by_cases hl:t.ib=true
  ·have hx:x∈(if t.ib then T.dN else []):=hx
   rw [if_pos hl]at hx
   exact⟨i,t,T,hi.1,hi.2,hl,hx⟩
  ·have hx:x∈(if t.ib then T.dN else []):=hx
   rw [if_neg hl]at hx
   cases hx
 ·rintro⟨i,t,T,h1,h2,hl,hx⟩
  refine⟨(t,T),bx (d6.2 ⟨h1,h2⟩),?_⟩
  show x∈(if t.ib then T.dN else [])
  rw [if_pos hl]
  exact hx
theorem AY {v i:Nat}:W.seen v i=true↔i=v∨∃t∈W.de,t.ib=true∧∃e∈t.es,e.val=i:=by
 unfold DW.seen
 simp [List.any_eq_true]
variable {v:Nat}
theorem qK.Hk(p:qK nd bC W vo to lv){i:Nat}(hi:i<W.eX.length):∃o,vo[i]?=some o:=⟨_,br (by rw [p.mA];exact hi)⟩
theorem qK.inj(p:qK nd bC W vo to lv){i j o:Nat}(hi:vo[i]?=some o)(hj:vo[j]?=some o):i=j:=by
 rcases mW i j with h|h|h
 ·exact absurd rfl (EO p.vd h hi hj)
 ·exact h
 ·exact absurd rfl (EO p.vd h hj hi)
theorem qK.PX(p:qK nd bC W vo to lv){i:Nat}(hi:i∈lY W.gy lv):1≤i∧i<W.eX.length:=by
 unfold lY at hi
 obtain⟨q,hq,rfl⟩:=cy.1 hi
 obtain⟨h1,h2⟩:=dU.1 hq
 obtain⟨h3,m,h4⟩:=p.bl q h1 (of_decide_eq_true h2)
 exact⟨h3,(bp.1 h4).1⟩
theorem qK.yy(p:qK nd bC W vo to lv){i:Nat}(hi:i∈tR W v):1≤i∧i<W.eX.length∧W.seen v i=true:=by
 unfold tR at hi
 obtain⟨h1,h2⟩:=dU.1 hi
 rw [pK]at h1
 exact⟨h1.1,by omega,h2⟩
theorem qK.Hl(p:qK nd bC W vo to lv){i:Nat}(h1:1≤i)(hi:i<W.eX.length):∃o z,vo[i]?=some o∧W.eX[i]?=some z∧nd[o]?=some (zM z)∧o≠0∧2≤z.1:=by
 obtain⟨o,ho⟩:=p.Hk hi
 have hz:W.eX[i]?=some (W.eX[i]'hi):=br hi
 exact⟨o,_,ho,hz,p.vn i o _ h1 ho hz⟩
theorem qK.ib(p:qK nd bC W vo to lv)(hv:v<W.eX.length)(hb:v∉lY W.gy lv):Lv nd (some (vo.getD v 0)::bC) (sq W vo to lv v):=by
 have akr:∀ {i:Nat} {t:DT},W.de[i]?=some t→∃T,to[i]?=some T:=fun {i t} h=>⟨_,br (by rw [p.tl];exact(bp.1 h).1)⟩
 have akd:∀l:LN,l.Nodup→(∀i∈l,i<W.eX.length)→(l.map fun i=>vo.getD i 0).Nodup:=fun l hl fE=>by
  induction l with
  |nil=>exact gQ
  |cons i l ih =>
   rw [cV]at hl
   rw [cU,cV]
   refine⟨fun hm=>?_,ih hl.2 fun j hj=>fE j (bJ _ hj)⟩
   obtain⟨j,hj,e⟩:=cy.1 hm
   obtain⟨o,ho⟩:=p.Hk (fE i (bQ ..))
   obtain⟨o',ij⟩:=p.Hk (fE j (bJ _ hj))
   rw [jq ho,jq ij]at e
   subst e
   have:=p.inj ho ij
   subst this
   exact hl.1 hj
 have ah7:∀i∈lY W.gy lv,i<W.eX.length:=fun i hi=>(p.PX hi).2
 have Wq:∀i∈tR W v,i<W.eX.length:=fun i hi=>(p.yy hi).2.1
 have amg:∀i,i<W.eX.length→vo.getD i 0∈vo:=fun i hi=>by
  obtain⟨o,ho⟩:=p.Hk hi
  rw [jq ho];exact bx ho
 have Qj:∀ {i:Nat} {t:DT} {T:TD},W.de[i]?=some t→to[i]?=some T→t.ib=true→vD nd (some (vo.getD v 0)::bC) T.t:=fun {i t T} h1 h2 hl=>by
  have hr:=(p.tb i t T h1 h2 hl).1.c
  have h0:=hr.g.nz _ T.jO
  exact .root (bJ _ ((p.rt _ h0).2 (.inl ⟨i,t,T,h1,h2,hl,rfl⟩))) h0
 have acC:∀ {i:Nat} {t:DT} {T:TD},W.de[i]?=some t→to[i]?=some T→t.ib=true→∀x∈T.dc,x.r≠0→∃j∈tR W v,vo.getD j 0=x.r:=fun {i t T} h1 h2 hl x hx h0=>by
  have r:=(p.tb i t T h1 h2 hl).1
  have:x.q∈t.es.map (DE.q vo):=r.es.mem_iff.2 (cy.2 ⟨x,hx,rfl⟩)
  obtain⟨e,he,eq⟩:=cy.1 this
  have er:vo.getD e.val 0=x.r:=congrArg (fun z:Sb=>z.2.2.1) eq
  have BG:=r.mA e he
  rw [p.mA]at BG
  refine⟨e.val,?_,er⟩
  unfold tR
  refine dU.2 ⟨pK.2 ⟨?_,by omega⟩,AY.2 (.inr ⟨t,bx h1,hl,e,he,rfl⟩)⟩
  rcases oJ e.val with hz|hz
  ·rw [hz,jq p.v0]at er
   exact absurd er.symm h0
  ·exact hz
 refine Lv.of ?_ (fun id h h0=>?_) (fun x hx m hm y hy h0=>?_) fun x hx=>?_
 ·unfold sq
  rw [cu,cu]
  refine⟨akd _ p.bd ah7,⟨?_,akd _ ?_ Wq,fun a ha b fV e=>?_⟩,fun a ha b fV e=>?_⟩
  ·
   have key:∀(n:Nat),n≤W.de.length→(((W.de.zip to).take n).flatMap fun p=>if p.1.ib then p.2.dN else []).Nodup:=by
    intro n
    induction n with
    |zero=>intro _;simp
    |succ n ih =>
     intro hn
     have ht:W.de[n]?=some (W.de[n]'(by omega)):=br (by omega)
     obtain⟨T,hT⟩:=akr ht
     generalize W.de[n]'(by omega)=t at ht
     have hz:(W.de.zip to)[n]?=some (t,T):=d6.2 ⟨ht,hT⟩
     rw [jP,hz,gW,cu]
     refine⟨ih (by omega),?_,fun a ha b fV e=>?_⟩
     ·show (([(t,T)]:List (DT × TD)).flatMap fun p=>if p.1.ib then p.2.dN else []).Nodup
      rw [cJ,iW,eV]
      show (if t.ib then T.dN else []).Nodup
      split
      ·rename_i hl
       exact(p.tb n t T ht hT hl).1.c.g.CV
      ·exact gQ
     ·subst e
      obtain⟨q,hq,hx⟩:=mf.1 ha
      obtain⟨i,hi⟩:=bT.1 hq
      have GX:i<n:=by
       have:=(bp.1 hi).1
       rw [dm]at this
       omega
      rw [f9 GX]at hi
      obtain⟨t',T'⟩:=q
      rw [d6]at hi
      have hx:a∈(if t'.ib then T'.dN else []):=hx
      have fV:a∈(([(t,T)]:List (DT × TD)).flatMap fun p=>if p.1.ib then p.2.dN else []):=fV
      rw [cJ,iW,eV]at fV
      have fV:a∈(if t.ib then T.dN else []):=fV
      split at hx
      ·rename_i Ff
       split at fV
       ·rename_i hl
        exact p.dj i n t' t T' T hi.1 ht hi.2 hT Ff hl (by omega) a hx fV
       ·cases fV
      ·cases hx
   have:=key W.de.length (bH _)
   unfold Eg
   rwa [eT (by rw [rK];omega)]at this
  ·exact List.Nodup.sublist kj List.nodup_range'
  ·subst e
   obtain⟨i,t,T,h1,h2,hl,hx⟩:=p9.1 ha
   obtain⟨j,hj,rfl⟩:=cy.1 fV
   exact(p.tb i t T h1 h2 hl).2 _ hx (amg j (Wq j hj))
  ·subst e
   obtain⟨i,hi,rfl⟩:=cy.1 ha
   rcases bI.1 fV with fV|fV
   ·obtain⟨j,t,T,h1,h2,hl,hx⟩:=p9.1 fV
    exact(p.tb j t T h1 h2 hl).2 _ hx (amg i (ah7 i hi))
   ·obtain⟨j,hj,e⟩:=cy.1 fV
    obtain⟨o,ho⟩:=p.Hk (ah7 i hi)
    obtain⟨o',ij⟩:=p.Hk (Wq j hj)
    rw [jq ho,jq ij]at e
    subst e
    have:=p.inj ho ij
    subst this
    rcases AY.1 (p.yy hj).2.2 with rfl|⟨t,ht,hl,e,he,Fi⟩
    ·exact hb hi
    ·exact p.bs _ hi t ht hl e he Fi
 ·unfold sq
  rcases ck.1 h with e|h
  ·have e:id=vo.getD v 0:=bt e
   refine bK _ (bK _ (cy.2 ⟨v,?_,e.symm⟩))
   unfold tR
   refine dU.2 ⟨pK.2 ⟨?_,by omega⟩,AY.2 (.inl rfl)⟩
   rcases oJ v with hz|hz
   ·rw [hz,jq p.v0]at e
    exact absurd e h0
   ·exact hz
  ·rcases(p.rt id h0).1 h with⟨i,t,T,h1,h2,hl,rfl⟩|⟨i,hi,hvi⟩
   ·exact bK _ (bW _ (p9.2 ⟨i,t,T,h1,h2,hl,T.jO⟩))
   ·exact bW _ (cy.2 ⟨i,hi,jq hvi⟩)
 ·unfold sq at hx ⊢
  have adL:∀i,1≤i→i<W.eX.length→x=vo.getD i 0→False:=fun i h1 hi e=>by
   obtain⟨o,z,ho,_,hn,_⟩:=p.Hl h1 hi
   rw [e,jq ho,hn]at hm
   obtain rfl:=bt hm
   cases hy
  rcases bI.1 hx with hx|hx
  ·obtain⟨i,hi,rfl⟩:=cy.1 hx
   exact(adL i (p.PX hi).1 (p.PX hi).2 rfl).elim
  ·rcases bI.1 hx with hx|hx
   ·obtain⟨i,t,T,h1,h2,hl,hx⟩:=p9.1 hx
    rcases(p.tb i t T h1 h2 hl).1.c.cl hx hm hy h0 with h|⟨e,he,rfl⟩
    ·exact bK _ (bW _ (p9.2 ⟨i,t,T,h1,h2,hl,h⟩))
    ·obtain⟨j,hj,ej⟩:=acC h1 h2 hl e he h0
     exact bK _ (bK _ (cy.2 ⟨j,hj,ej⟩))
   ·obtain⟨i,hi,rfl⟩:=cy.1 hx
    exact(adL i (p.yy hi).1 (p.yy hi).2.1 rfl).elim
 ·unfold sq at hx
  rcases bI.1 hx with hx|hx
  ·obtain⟨i,hi,rfl⟩:=cy.1 hx
   obtain⟨o,z,ho,_,_,h0,_⟩:=p.Hl (p.PX hi).1 (p.PX hi).2
   rw [jq ho]
   exact .root (bJ _ ((p.rt o h0).2 (.inr ⟨i,hi,ho⟩))) h0
  ·rcases bI.1 hx with hx|hx
   ·obtain⟨i,t,T,h1,h2,hl,hx⟩:=p9.1 hx
    exact(p.tb i t T h1 h2 hl).1.c.rch (Qj h1 h2 hl) x hx
   ·obtain⟨i,hi,rfl⟩:=cy.1 hx
    obtain⟨h1,h2,hs⟩:=p.yy hi
    obtain⟨o,z,ho,_,_,h0,_⟩:=p.Hl h1 h2
    rw [jq ho]
    rcases AY.1 hs with rfl|⟨t,ht,hl,e,he,Fi⟩
    ·exact .root (by rw [jq ho];exact bQ ..) h0
    ·obtain⟨j,hj⟩:=bT.1 ht
     obtain⟨T,hT⟩:=akr hj
     have r:=(p.tb j t T hj hT hl).1
     have:e.q vo∈T.dc.map iM.q:=r.es.mem_iff.1 (cy.2 ⟨e,he,rfl⟩)
     obtain⟨x,hx,eq⟩:=cy.1 this
     have er:x.r=vo.getD e.val 0:=congrArg (fun z:Sb=>z.2.2.1) eq
     rw [Fi,jq ho]at er
     obtain⟨n,ok,_⟩:=r.c.Uj hx
     refine .next (r.c.rch (Qj hj hT hl) _ (TD.pq hx)) ok.1 ?_ h0
     unfold iM.node
     rw [er]
     simp
theorem DU:∀ {b l:LN},l.length=b.length→(((b.zip l).filter fun p=>decide (0<p.1)).map (·.1))=b.filter fun z=>decide (0<z)
 | [],_,_=>by simp
 |x::b,[],h=>by simp at h
 |x::b,y::l,h=>by
  have ih:=DU (b:=b) (l:=l) (by simpa using h)
  rw [kU,eP,eP]
  by_cases hx:0<x
  ·rw [if_pos (decide_eq_true hx),if_pos (decide_eq_true hx),cU,ih]
  ·rw [if_neg (by rw [decide_eq_true_eq];exact hx),if_neg (by rw [decide_eq_true_eq];exact hx),ih]
theorem qK.pR(p:qK nd bC W vo to lv)(v:Nat):((sq W vo to lv v).map (RS.qf nd)).Perm (W.pR v):=by
 have vsz:∀i,1≤i→i<W.eX.length→RS.qf nd (vo.getD i 0)=(W.eX.getD i (0,0)).1:=fun i h1 hi=>by
  obtain⟨o,z,ho,hz,hn,_,h2⟩:=p.Hl h1 hi
  rw [jq ho,yx hn,ZZ h2,bB,hz];rfl
 unfold sq DW.pR
 rw [cx,cx]
 have e1:((lY W.gy lv).map fun i=>vo.getD i 0).map (RS.qf nd)=W.gy.filter fun z=>decide (0<z):=by
  rw [←DU p.ll]
  unfold lY
  rw [fh,fh]
  refine cD fun q hq=>?_
  obtain⟨h1,h2⟩:=dU.1 hq
  obtain⟨h3,m,h4⟩:=p.bl q h1 (of_decide_eq_true h2)
  show RS.qf nd (vo.getD q.2 0)=q.1
  rw [vsz q.2 h3 (bp.1 h4).1,bB,h4];rfl
 have e3:((tR W v).map fun i=>vo.getD i 0).map (RS.qf nd)=W.uO v:=by
  rw [fh]
  refine cD fun i hi=>?_
  have:=p.yy hi
  exact vsz i this.1 this.2.1
 rw [e1,e3]
 refine mQ _ (ii _ ?_)
 unfold Eg
 have ef:W.de.flatMap DT.pR=(W.de.zip to).flatMap fun p=>p.1.pR:=by
  have:W.de=(W.de.zip to).map (·.1):=by rw [List.map_fst_zip (by rw [p.tl];exact bH _)]
  conv=>lhs;rw [this]
  rw [qE]
 rw [ef,List.map_flatMap]
 have key:∀l:List (DT × TD),(∀q∈l,q∈W.de.zip to)→(l.flatMap fun a=>(if a.1.ib then a.2.dN else []).map (RS.qf nd)).Perm (l.flatMap fun p=>p.1.pR):=fun l hl=>by
  induction l with
  |nil=>exact fT _
  |cons q l ih =>
   rw [cJ,cJ]
   refine List.Perm.append ?_ (ih fun y hy=>hl y (bJ _ hy))
   obtain⟨i,hi⟩:=bT.1 (hl q (bQ ..))
   obtain⟨t,T⟩:=q
   rw [d6]at hi
   show ((if t.ib then T.dN else []).map (RS.qf nd)).Perm t.pR
   by_cases yK:t.ib=true
   ·rw [if_pos yK]
    exact(p.tb i t T hi.1 hi.2 yK).1.pR yK
   ·rw [if_neg yK]
    unfold DT.pR
    rw [if_neg yK]
    exact fT _
 exact key _ fun _ h=>h
theorem acL {l m:LN}(h:l.Perm m):cS l=cS m∧cB l=cB m:=⟨(h.map _).sum_nat,(h.map _).sum_nat⟩
theorem qK.dM(p:qK nd bC W vo to lv)(hv:v<W.eX.length)(hb:v∉lY W.gy lv){dN:LN}(l:Lv nd (some (vo.getD v 0)::bC) dN):1+RS.mS nd dN=W.S v∧RS.mT nd dN=W.B v:=by
 have l2:=p.ib hv hb
 have hp:dN.Perm (sq W vo to lv v):=(List.perm_ext_iff_of_nodup l.CV l2.CV).2 fun y=>(l.S4 y).trans (l2.S4 y).symm
 have h:=acL ((hp.map (RS.qf nd)).trans (p.pR v))
 unfold DW.S DW.B
 rw [←h.1,←h.2]
 unfold RS.mS RS.mT cS cB
 rw [fh,fh]
 exact⟨rfl,rfl⟩
theorem qK.Iw(p:qK nd bC W vo to lv)(hv:1≤W.eX.length){dN:LN}(l:Lv nd bC dN):1+RS.mS nd dN=W.S 0∧RS.mT nd dN=W.B 0:=by
 refine p.dM (v:=0) hv (fun h=>by have:=(p.PX h).1;omega) ?_
 rw [jq p.v0]
 exact Lv.mem (fun y h0 h=>.root (bJ _ h) h0) (fun y h0 h=>by
  rcases ck.1 h with e|h
  ·exact absurd (bt e) h0
  ·exact .root h h0) l
end
section
variable {nd gm:List di} {bC jl:List (Option Nat)} {W:DW} {vo:LN} {to:List TD} {lv:LN} {t t':DT} {T T':TD} {dN:LN} {i:Nat}
theorem yT.lt(c:yT nd T){x:Nat}(hx:x∈T.dN):x<nd.length:=by
 have AU:∀ {m:di},nd[x]?=some m→x<nd.length:=fun h=>(bp.1 h).1
 unfold TD.dN at hx
 rcases bI.1 hx with hx|hx
 ·unfold TD.nV at hx
  rcases ck.1 hx with rfl|hx
  ·exact AU c.g.tn
  ·rcases ck.1 hx with rfl|hx
   ·exact AU c.g.wn
   ·cases ho:T.od with
    |none=>rw [ho]at hx;cases hx
    |some o =>
     rw [ho]at hx
     obtain rfl:x=o.id:=by simpa using hx
     exact AU (c.g.wo o ho)
 ·obtain⟨y,hy,e⟩:=iR.1 hx
  obtain⟨n,ok,_⟩:=c.Uj hy
  rcases e with rfl|rfl
  ·exact AU ok.1
  ·exact AU ok.2.1
theorem qK.Kv(p:qK nd bC W vo to lv){x:Nat}(hx:x∈vo)(h0:x≠0):x<nd.length:=by
 obtain⟨j,hj⟩:=bT.1 hx
 have hl:=(bp.1 hj).1
 rw [p.mA]at hl
 rcases oJ j with h|h
 ·rw [h,p.v0]at hj
  exact absurd (bt hj).symm h0
 ·obtain⟨o,z,ho,_,hn,_⟩:=p.Hl h hl
  rw [hj]at ho
  obtain rfl:=bt ho
  exact(bp.1 hn).1
theorem qK.anz(p:qK nd bC W vo to lv)(hv:∀x∈vo,x≠0→gm[x]?=nd[x]?)(ht:∀(i:Nat) t T,W.de[i]?=some t→to[i]?=some T→t.ib=true→∀x∈T.dN,gm[x]?=nd[x]?) (hr:∀r,r≠0→(some r∈jl↔some r∈bC)):qK gm jl W vo to lv :=
 ⟨p.ll,p.mA,p.tl,p.v0,fun i o z h1 ho hz=>by
  obtain⟨a,b,c⟩:=p.vn i o z h1 ho hz
  exact⟨(hv o (bx ho) b).trans a,b,c⟩,p.vd,fun i t T h1 h2 hl=>by
  obtain⟨r,d⟩:=p.tb i t T h1 h2 hl
  exact⟨⟨r.c.eG (ht i t T h1 h2 hl),r.k,r.df,r.sh,r.es,r.mA⟩,d⟩,p.dj,fun r h0=>(hr r h0).trans (p.rt r h0),p.bl,p.bd,p.bs⟩
theorem qK.grow(p:qK nd bC W vo to lv)(m:List di)(hr:∀r,r≠0→(some r∈jl↔some r∈bC)):qK (nd++m) jl W vo to lv :=
 p.anz (fun x hx h0=>bL (p.Kv hx h0)) (fun i t T h1 h2 hl x hx=>bL ((p.tb i t T h1 h2 hl).1.c.lt hx)) hr
theorem kQ {W:DW}{j:Nat}{t0:DT}(h:(W.gJ i t').de[j]?=some t0):(j=i∧t0=t'∧i<W.de.length)∨(j≠i∧W.de[j]?=some t0):=by
 have h:(W.de.set i t')[j]?=some t0:=h
 rw [eW]at h
 by_cases e:i=j
 ·rw [if_pos e]at h
  split at h
  ·exact .inl ⟨e.symm,(bt h).symm,by assumption⟩
  ·cases h
 ·rw [if_neg e]at h
  exact .inr ⟨fun h=>e h.symm,h⟩
theorem lP {α:Type}{l:List α}{j:Nat}{x y:α}(h:(l.set i x)[j]?=some y):(j=i∧y=x)∨(j≠i∧l[j]?=some y):=by
 rw [eW]at h
 by_cases e:i=j
 ·rw [if_pos e]at h
  split at h
  ·exact .inl ⟨e.symm,(bt h).symm⟩
  ·cases h
 ·rw [if_neg e]at h
  exact .inr ⟨fun h=>e h.symm,h⟩
theorem qK.IK(p:qK nd bC W vo to lv)(ht:W.de[i]?=some t)(hT:to[i]?=some T)(hl:t.ib=true)(a:qB nd T gm T')(Kj:lZ gm vo t' T')(Ff:t'.ib=true)(hes:∀v∈lY W.gy lv,∀e∈t'.es,e.val≠v)
  (hr:∀r,r≠0→(some r∈jl↔some r∈bC)):qK gm jl (W.gJ i t') vo (to.set i T') lv:=by
 have iZ:=(bp.1 ht).1
 have hTl:=(bp.1 hT).1
 obtain⟨r0,d0⟩:=p.tb i t T ht hT hl
 have sep:∀x∈T'.dN,x∈T.dN∨nd.length≤x:=a.own
 have oR:∀(j:Nat) t0 T0,j≠i→W.de[j]?=some t0→to[j]?=some T0→t0.ib=true→∀x∈T0.dN,x∉T.dN∧x∉T'.dN∧gm[x]?=nd[x]?:=fun j t0 T0 hj h1 h2 h3 x hx=>by
  have hx1:x∉T.dN:=p.dj j i t0 t T0 T h1 ht h2 hT h3 hl hj x hx
  have hx2:=(p.tb j t0 T0 h1 h2 h3).1.c.lt hx
  exact⟨hx1,fun h=>(sep x h).elim hx1 fun h=>by omega,a.fr x hx2 hx1⟩
 refine⟨p.ll,p.mA,by show (to.set i T').length=(W.de.set i t').length;rw [cd,cd];exact p.tl,p.v0,fun j o z h1 ho hz=>?_,p.vd,fun j t0 T0 h1 h2 h3=>?_,fun j k t0 t1 T0 T1 h1 h2 h3 h4 h5 h6 ZM x hx=>?_,fun r h0=>(hr r h0).trans ((p.rt r h0).trans ?_),p.bl,p.bd,fun v hv t0 h1 h2 e he=>?_⟩
 ·obtain⟨q1,q2,q3⟩:=p.vn j o z h1 ho hz
  have hm:=bx ho
  exact⟨(a.fr o (p.Kv hm q2) fun h=>d0 o h hm).trans q1,q2,q3⟩
 ·rcases kQ h1 with⟨rfl,rfl,_⟩|⟨hj,h1⟩
  ·rcases lP h2 with⟨_,rfl⟩|⟨hj,_⟩
   ·refine⟨Kj,fun x hx AI=>?_⟩
    rcases sep x hx with h|h
    ·exact d0 x h AI
    ·have:=p.Kv AI (Kj.c.g.nz x hx);omega
   ·exact absurd rfl hj
  ·rcases lP h2 with⟨e,_⟩|⟨_,h2⟩
   ·exact absurd e hj
   ·obtain⟨r,d⟩:=p.tb j t0 T0 h1 h2 h3
    exact⟨⟨r.c.eG fun x hx=>(oR j t0 T0 hj h1 h2 h3 x hx).2.2,r.k,r.df,r.sh,r.es,r.mA⟩,d⟩
 ·rcases kQ h1 with⟨e1,e2,_⟩|⟨hj,h1'⟩
  ·rcases lP h3 with⟨_,e3⟩|⟨hj,_⟩
   ·rcases kQ h2 with⟨e4,_,_⟩|⟨hk,Rb⟩
    ·exact absurd (e1.trans e4.symm) ZM
    ·rcases lP h4 with⟨e,_⟩|⟨_,h4'⟩
     ·exact absurd e hk
     ·exact fun h=>(oR k t1 T1 hk Rb h4' h6 x h).2.1 (e3▸hx)
   ·exact absurd e1 hj
  ·rcases lP h3 with⟨e,_⟩|⟨_,h3'⟩
   ·exact absurd e hj
   ·rcases kQ h2 with⟨e1,_,_⟩|⟨hk,Rb⟩
    ·rcases lP h4 with⟨_,e4⟩|⟨hk,_⟩
     ·exact fun h=>(oR j t0 T0 hj h1' h3' h5 x hx).2.1 (e4▸h)
     ·exact absurd e1 hk
    ·rcases lP h4 with⟨e,_⟩|⟨_,h4'⟩
     ·exact absurd e hk
     ·exact p.dj j k t0 t1 T0 T1 h1' Rb h3' h4' h5 h6 ZM x hx
 ·refine or_congr ⟨?_,?_⟩ oy
  ·rintro⟨j,t0,T0,h1,h2,h3,rfl⟩
   by_cases e:j=i
   ·subst e
    rw [hT]at h2
    obtain rfl:=bt h2
    exact⟨j,t',T',cE iZ,cE hTl,Ff,a.t.symm⟩
   ·refine⟨j,t0,T0,?_,?_,h3,rfl⟩
    ·show (W.de.set i t')[j]?=_
     rw [dl (Ne.symm e)];exact h1
    ·rw [dl (Ne.symm e)];exact h2
  ·rintro⟨j,t0,T0,h1,h2,h3,rfl⟩
   rcases kQ h1 with⟨rfl,rfl,_⟩|⟨hj,h1⟩
   ·rcases lP h2 with⟨_,rfl⟩|⟨hj,_⟩
    ·exact⟨j,t,T,ht,hT,hl,a.t⟩
    ·exact absurd rfl hj
   ·rcases lP h2 with⟨e,_⟩|⟨_,h2⟩
    ·exact absurd e hj
    ·exact⟨j,t0,T0,h1,h2,h3,rfl⟩
 ·rcases dB h1 with h|h
  ·exact p.bs v hv t0 h h2 e he
  ·subst h
   exact hes v hv e he
theorem qK.ajj(p:qK nd bC W vo to lv){z:Nat × Nat}{o:Nat}{m:List di}{vs:Sl}(ho:(nd++m)[o]?=some (zM z)) (fE:nd.length≤o) (h2:2≤z.1) (h0:1≤nd.length) (hr:∀r,r≠0→(some r∈jl↔some r∈bC)):qK (nd++m) jl {W with eX:=W.eX++[z],vs:=vs} (vo++[o]) to lv:=by
 have g:=p.grow m hr
 have vlt:∀ {j:Nat} {x:Nat},vo[j]?=some x→(vo++[o])[j]?=some x:=fun h=>by rw [bL (bp.1 h).1];exact h
 have Ou:o∉vo:=fun h=>by have:=p.Kv h (by omega);omega
 refine⟨g.ll,by rw [bG,p.mA];show _=(W.eX++[z]).length;rw [bG];rfl,g.tl,vlt g.v0,fun j x y h1 hx hy=>?_,?_,fun j t0 T0 h1 h2 h3=>?_,g.dj,fun r h0=>(g.rt r h0).trans (or_congr oy ⟨fun⟨v,hv,h⟩=>⟨v,hv,vlt h⟩,fun⟨v,hv,h⟩=>⟨v,hv,?_⟩⟩),fun q hq hp=>?_,g.bd,g.bs⟩
 ·have hy:(W.eX++[z])[j]?=some y:=hy
  by_cases hj:j<vo.length
  ·rw [bL hj]at hx
   rw [bL (by rw [←p.mA];exact hj)]at hy
   exact g.vn j x y h1 hx hy
  ·have ej:j=vo.length:=by
    have:=(bp.1 hx).1
    rw [bG]at this
    simp at this
    omega
   rw [bN (by omega),ej,dD]at hx
   rw [bN (by rw [←p.mA];omega),ej,p.mA,dD]at hy
   obtain rfl:o=x:=bt hx
   obtain rfl:z=y:=bt hy
   exact⟨ho,by omega,h2⟩
 ·rw [cu]
  exact⟨p.vd,by simp,fun a ha b hb e=>by rw [bM.1 hb]at e;exact Ou (e▸ha)⟩
 ·obtain⟨r,d⟩:=g.tb j t0 T0 h1 h2 h3
  have dq:t0.es.map (DE.q (vo++[o]))=t0.es.map (DE.q vo):=cD fun e he=>by
   unfold DE.q
   rw [bB,bB,bL (r.mA e he)]
  refine⟨⟨r.c,r.k,r.df,r.sh,by rw [dq];exact r.es,fun e he=>by rw [bG];have:=r.mA e he;omega⟩,fun x hx h=>?_⟩
  rcases bI.1 h with h|h
  ·exact d x hx h
  ·rw [bM.1 h]at hx
   have:=(p.tb j t0 T0 h1 h2 h3).1.c.lt hx
   omega
 ·have:=(p.PX hv).2
  rw [bL (by rw [p.mA];exact this)]at h
  exact h
 ·obtain⟨q1,mm,q2⟩:=g.bl q hq hp
  exact⟨q1,mm,by show (W.eX++[z])[q.2]?=_;rw [bL (bp.1 q2).1];exact q2⟩
end
structure VD where
 tb:Nat
 id:Nat
 hn:Nat
 jp:Bool
structure zg where
 n:Nat
 id:Option Nat
def Eh(to:List TD)(i:Nat):Nat:=(to[i]?.map (·.t)).getD 0
def oM(to:List TD)(v:VD):Option (Nat × Nat):=if v.jp then some (v.hn-1,Eh to v.id)else none
def pV(to:List TD)(x:zg):Option (Nat × Nat):=x.id.map fun i=>(x.n-1,Eh to i)
def pu(vo:LN)(x:(Nat × Nat) × Nat):Option (Nat × Nat):=if 0<x.1.1 then some (x.2-1,vo.getD x.1.2 0)else none
def HS(W:DW)(vo:LN)(to:List TD)(lv:LN)(vw:List VD)(ho:List zg)(lo:LN):List (Nat × Nat) :=
 vw.filterMap (oM to)++(ho.filterMap (pV to)++((W.gy.zip lv).zip lo).filterMap (pu vo))
structure It (bC:List (Option Nat)) (L:List (Nat × Nat)):Prop where
 ch:∀p r,bC.getD p none=some r↔(p,r)∈L
 nd:(L.map (·.1)).Nodup
section
variable {bC jl:List (Option Nat)} {L L':List (Nat × Nat)} {p0 r0:Nat}
theorem It.lS(c:It bC L)(h:L'.Perm L):It bC L':=⟨fun p r=>(c.ch p r).trans h.mem_iff.symm,(h.map _).nodup_iff.2 c.nd⟩
theorem It.T5(c:It bC L)(h:wQ jl bC):It jl L:=⟨fun p r=>by rw [h p];exact c.ch p r,c.nd⟩
theorem It.add(c:It bC L):It (ix bC r0) ((RS.dV bC,r0)::L):=by
 have hf:∀r,(RS.dV bC,r)∉L:=fun r h=>by
  have:=(c.ch _ r).2 h
  rw [nO]at this
  cases this
 refine⟨fun p r=>?_,?_⟩
 ·rw [kK]
  by_cases e:p=RS.dV bC
  ·subst e
   rw [if_pos rfl]
   constructor
   ·intro h
    rw [bt h]
    exact bQ ..
   ·intro h
    rcases ck.1 h with h|h
    ·rw [(rz h).2]
    ·exact absurd h (hf r)
  ·rw [if_neg e,c.ch p r,ck]
   exact⟨.inr,fun h=>h.resolve_left fun h=>e (rz h).1⟩
 ·rw [cU,cV]
  refine⟨fun h=>?_,c.nd⟩
  obtain⟨q,hq,e⟩:=cy.1 h
  obtain⟨a,b⟩:=q
  have e:a=RS.dV bC:=e
  subst e
  exact hf b hq
theorem It.drop (c:It bC ((p0,r0)::L)):It (bC.set p0 none) L:=by
 have Jf:=c.nd
 rw [cU,cV]at Jf
 refine⟨fun p r=>?_,Jf.2⟩
 rw [Ic]
 by_cases e:p=p0
 ·subst e
  rw [if_pos rfl]
  exact⟨fun h=>(nomatch h),fun h=>absurd (cy.2 ⟨_,h,rfl⟩) Jf.1⟩
 ·rw [if_neg e,c.ch p r,ck]
  exact⟨fun h=>h.resolve_left fun h=>e (rz h).1,.inr⟩
theorem It.mem(c:It bC L)(r:Nat):some r∈bC↔∃p,(p,r)∈L:=by
 rw [lV]
 exact⟨fun⟨j,hj⟩=>⟨j,(c.ch j r).1 hj⟩,fun⟨p,hp⟩=>⟨p,(c.ch p r).2 hp⟩⟩
theorem Zb (l:List (Option Nat)):rF l=((List.range l.length).filter fun i=>(l.getD i none).isSome).length:=by
 induction l with
 |nil=>rfl
 |cons a l ih =>
  rw [dF,List.range_succ_eq_map,eP,List.filter_map]
  have e:((fun i=>((a::l).getD i none).isSome) ∘ Nat.succ)=fun i=>(l.getD i none).isSome:=by
   funext i
   simp
  rw [e]
  unfold rF at *
  cases a with
  |none=>rw [gu (by simp),if_neg (by simp),bA,ih]
  |some x=>rw [fI rfl,if_pos (by simp),dF,dF,bA,ih]
theorem It.TC(c:It bC L):rF bC=L.length:=by
 rw [Zb,←show (L.map (·.1)).length=L.length from bA ..]
 refine List.Perm.length_eq ((List.perm_ext_iff_of_nodup (List.Nodup.sublist kj List.nodup_range) c.nd).2 fun p=>?_)
 rw [dU,jQ]
 constructor
 ·rintro⟨_,h⟩
  obtain⟨r,hr⟩:=jE.1 h
  exact cy.2 ⟨(p,r),(c.ch p r).1 hr,rfl⟩
 ·intro h
  obtain⟨q,hq,rfl⟩:=cy.1 h
  obtain⟨a,b⟩:=q
  have:=(c.ch a b).2 hq
  refine⟨?_,by rw [this];rfl⟩
  rcases eS a bC.length with h|h
  ·exact h
  ·rw [bB,bV h]at this
   cases this
end
def FN(vw:List VD)(i:Nat):Nat:=(vw.filter fun v=>v.jp&&decide (v.id=i)).length
def FO(ho:List zg)(i:Nat):Nat:=(ho.filter fun x=>decide (x.id=some i)).length
structure HC (bC:List (Option Nat)) (W:DW) (vo:LN) (to:List TD) (lv:LN) (vw:List VD) (ho:List zg) (lo:LN):Prop where
 c:It bC (HS W vo to lv vw ho lo)
 Nl:∀v∈vw,v.id<W.de.length∧(v.jp=true→1≤v.hn)
 hp:∀x∈ho,∀i,x.id=some i→i<W.de.length∧1≤x.n
 lp:lo.length=W.gy.length∧∀n∈lo,1≤n
 cv:∀(i:Nat) t,W.de[i]?=some t→t.vw=FN vw i∧t.hd=FO ho i
section
variable {bC:List (Option Nat)} {W:DW} {vo:LN} {to:List TD} {lv:LN} {vw:List VD} {ho:List zg} {lo:LN} {i:Nat} {t:DT} {T:TD}
theorem xp(h:to[i]?=some T):Eh to i=T.t:=by unfold Eh;rw [h];rfl
theorem yi(x:HC bC W vo to lv vw ho lo)(ht:W.de[i]?=some t):t.ib=true↔(∃v∈vw,v.jp=true∧v.id=i)∨∃y∈ho,y.id=some i:=by
 obtain⟨h1,h2⟩:=x.cv i t ht
 unfold DT.ib
 rw [decide_eq_true_eq,h1,h2]
 unfold FN FO
 constructor
 ·intro h
  by_cases hv:(vw.filter fun v=>v.jp&&decide (v.id=i)).length=0
  ·right
   have:(ho.filter fun x=>decide (x.id=some i))≠[]:=fun e=>h (by rw [hv,e];rfl)
   obtain⟨y,hy⟩:=lh _ this
   obtain⟨a,b⟩:=dU.1 hy
   exact⟨y,a,of_decide_eq_true b⟩
  ·left
   have:(vw.filter fun v=>v.jp&&decide (v.id=i))≠[]:=fun e=>by rw [e]at hv;exact hv rfl
   obtain⟨y,hy⟩:=lh _ this
   obtain⟨a,b⟩:=dU.1 hy
   rw [eD,decide_eq_true_eq]at b
   exact⟨y,a,b⟩
 ·rintro(⟨v,hv,h3,h4⟩|⟨y,hy,h3⟩)
  ·have:0<(vw.filter fun v=>v.jp&&decide (v.id=i)).length:=pL (dU.2 ⟨hv,by rw [h3,h4];simp⟩)
   omega
  ·have:0<(ho.filter fun x=>decide (x.id=some i)).length:=pL (dU.2 ⟨hy,decide_eq_true h3⟩)
   omega
theorem HC.rt(x:HC bC W vo to lv vw ho lo)(tl:to.length=W.de.length)(ll:lv.length=W.gy.length)(hv:∀v∈lY W.gy lv,v<vo.length)(r:Nat):
  some r∈bC↔(∃(i:Nat) (t:DT) (T:TD),W.de[i]?=some t∧to[i]?=some T∧t.ib=true∧r=T.t)∨∃v∈lY W.gy lv,vo[v]?=some r:=by
 rw [x.c.mem r]
 have adb:∀i,i<W.de.length→∃t T,W.de[i]?=some t∧to[i]?=some T:=fun i hi=>⟨_,_,br hi,br (by rw [tl];exact hi)⟩
 constructor
 ·rintro⟨p,hp⟩
  unfold HS at hp
  rcases bI.1 hp with hp|hp
  ·obtain⟨v,Ub,Wm⟩:=ft.1 hp
   unfold oM at Wm
   split at Wm
   ·rename_i ij
    obtain⟨t,T,h1,h2⟩:=adb v.id (x.Nl v Ub).1
    refine .inl ⟨v.id,t,T,h1,h2,(yi x h1).2 (.inl ⟨v,Ub,ij,rfl⟩),?_⟩
    rw [←xp h2]
    exact(rz (bt Wm)).2.symm
   ·cases Wm
  ·rcases bI.1 hp with hp|hp
   ·obtain⟨y,hy1,ZI⟩:=ft.1 hp
    unfold pV at ZI
    rw [jd]at ZI
    obtain⟨i,hi,e⟩:=ZI
    obtain⟨t,T,h1,h2⟩:=adb i (x.hp y hy1 i hi).1
    refine .inl ⟨i,t,T,h1,h2,(yi x h1).2 (.inr ⟨y,hy1,hi⟩),?_⟩
    rw [←xp h2]
    exact(rz e).2.symm
   ·obtain⟨y,hy1,ZI⟩:=ft.1 hp
    unfold pu at ZI
    split at ZI
    ·rename_i wW
     have hz:=(List.of_mem_zip hy1).1
     have ha:y.1.2∈lY W.gy lv:=by
      unfold lY
      exact cy.2 ⟨y.1,dU.2 ⟨hz,decide_eq_true wW⟩,rfl⟩
     refine .inr ⟨y.1.2,ha,?_⟩
     have fE:=hv _ ha
     have:=(rz (bt ZI)).2
     rw [bB,br fE]at this
     rw [br fE,←this];rfl
    ·cases ZI
 ·rintro(⟨i,t,T,h1,h2,h3,rfl⟩|⟨v,Ub,Wm⟩)
  ·rcases(yi x h1).1 h3 with⟨v,a,b,c⟩|⟨y,a,b⟩
   ·refine⟨v.hn-1,bW _ (ft.2 ⟨v,a,?_⟩)⟩
    unfold oM
    rw [if_pos b,c,xp h2]
   ·refine⟨y.n-1,bK _ (bW _ (ft.2 ⟨y,a,?_⟩))⟩
    unfold pV
    rw [b,dR,xp h2]
  ·unfold lY at Ub
   obtain⟨q,hq,rfl⟩:=cy.1 Ub
   obtain⟨hz,wW⟩:=dU.1 hq
   obtain⟨j,hj⟩:=bT.1 hz
   have nK:=(bp.1 hj).1
   rw [rK,ll,Nat.min_self,←x.lp.1]at nK
   have hl:lo[j]?=some (lo[j]'nK):=br nK
   refine⟨lo[j]'nK-1,bK _ (bK _ (ft.2 ⟨(q,lo[j]'nK),bx (d6.2 ⟨hj,hl⟩),?_⟩))⟩
   unfold pu
   rw [if_pos (of_decide_eq_true wW),jq Wm]
end
end Go.Ev
