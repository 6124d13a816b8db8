/- TableFull: a table on a heap that may be ful. No condition. -/
import Derived.Test.YtjigacanjlppiaaGreatDoorQ19
set_option linter.all false
set_option maxRecDepth 1000000
open Go.IntKind (wrap)
namespace Go.Ev
open Go.Proofs
structure Has (h:Hp) (q:HQ) (s:RS) (nd:List di) (tb hn:Nat) (T:TD) (A:AT):Prop where
 p:qA h q s nd tb hn T
 y:aQ T A
 rl:s.bC.length≤100
 crq:rF s.bC≤10
def aBz(A A':AT)(o:aP)(n:Int):Prop :=
 (o.gone=true∧n=(if A.cX o.kb then 0 else 63)∧A'.m=A.rest o.kb)∨(o.gone=false∧4096<o.kb.length∧n=3062∧A'.m=A.m) ∨
 (o.gone=false∧o.kb.length≤4096∧A.cX o.kb=true∧n=3000∧A'.m=(o.kb,(false,o.a,o.b))::A.rest o.kb) ∨
 (o.gone=false∧o.kb.length≤4096∧A.cX o.kb=false∧n=2000∧A'.m=(o.kb,(false,o.a,o.b))::A.m) ∨
 (o.gone=false∧o.kb.length≤4096∧A.cX o.kb=false∧n=3031∧A'.m=A.m)
section
variable {h h' h2 g h0 h1 hb h4:Hp} {q q' q2 q1:HQ} {s s' s2 s1:RS} {nd gm kq lT:List di} {tb hn i m:Nat} {T T' T1 T2:TD} {A A':AT} {k key kb:LN} {R:RP} {a c:Sl} {ob:Option Nat} {o:aP} {w1 w2:Nat} {vs:LV} {S:Nat→Prop}
theorem Has.cI(x:Has h q s nd tb hn T A)(k:bY N h h'):Has h' q s nd tb hn T A:=⟨x.p.cI k,x.y,x.rl,x.crq⟩
theorem Has.HP(x:Has h q s nd tb hn T A)(k:bY S h h')(hS:∀b,S b→q.bR b=.out)(ht:¬S tb)(hz:¬S BF):Has h' q s nd tb hn T A :=
 ⟨⟨x.p.g.HP k hS,⟨bF k x.p.l.row ht,x.p.l.out⟩,x.p.pos,x.p.lt,x.p.held,x.p.c,⟨bF k x.p.tz.row hz,x.p.tz.out⟩⟩,x.y,x.rl,x.crq⟩
theorem Has.HS(x:Has h q s nd tb hn T A)(a:uB h q s nd T h' q' s' gm T')(y:aQ T' A'):Has h' q' s' gm tb hn T' A' :=
 ⟨a.jp x.p,y,by have h1:=a.agC;have h2:=x.rl;have h3:=x.crq;omega,by rw [a6 a.T5];exact x.crq⟩
theorem Has.arH(x:Has h q s nd tb hn T A)(hk:k∈A.su):k.length≤4096:=by
 obtain⟨y,hy,rfl⟩:=cy.1 (x.y.kp.mem_iff.1 hk)
 obtain⟨n,ok,_⟩:=x.p.c.Uj hy
 exact ok.2.2.len
theorem aBD(x:Has h q s nd tb hn T A)(sr:Zs h q a key)(o0:key.length≤4096)(hw1:w1<18446744073709551616)(hw2:w2<18446744073709551616)
  (LG:∀h' q' s' gm T',A.cX key=true→uB h q s nd T h' q' s' gm T'→Has h' q' s' gm tb hn T' ⟨A.sd,T'.sE,(key,(false,w1,w2))::A.rest key⟩→R (vt #[vb false,vi 0]) h')
  (sY:∀h' q' s' gm T',A.cX key=false→uB h q s nd T h' q' s' gm T'→Has h' q' s' gm tb hn T' ⟨A.sd,T'.sE,A.m⟩→R (vt #[vb false,vi 31]) h')
  (vV:∀h' q' s' gm T',A.cX key=false→uB h q s nd T h' q' s' gm T'→Has h' q' s' gm tb hn T' ⟨A.sd,T'.sE,(key,(false,w1,w2))::A.m⟩→R (vt #[vb true,vi 0]) h') :
  bq PG 48 #[vp (sa tb),.slice a.a a.n a.c,uv 0,uv w1,uv w2] h R:=by
 have z:=aqw (v:=0) (w1:=w1) (w2:=w2) (R:=R) x.p x.y.k sr o0 (by have:=x.rl;omega) (.inl rfl) hw1 hw2 (fun e r h1 q1 s1 kq T1 hf p1 p2 sh a1=>?_) (fun h1 q1 s1 kq T1 ndx hf n1 st _ _ a1=>?_) fun y h1 q1 s1 kq T1 lT T2 SS T3 hf n1 st n2 _ ek er ea eb eh pp _ _ sh2 en k2 a1=>?_
 ·rw [RS.iQ]at z;exact z
 ·obtain⟨hm,hk⟩:=pz hf
  refine LG h1 q1 s1 kq T1 (x.y.wv hf) a1 (x.HS a1 ⟨x.y.k.aqu a1.n.df p1 p2 rfl rfl,a1.n.df.trans x.y.sd,rfl,?_⟩)
  refine(p2.map iM.row).trans ?_
  rw [cU,←hk]
  exact List.Perm.cons _ (x.y.rest p1)
 ·exact sY h1 q1 s1 ndx T1 (x.y.ya hf) a1 (x.HS a1 ⟨x.y.k.lS st.df st.lS,st.df.trans x.y.sd,rfl,(st.lS.map _).trans x.y.m⟩)
 ·have e3:=en.HS n2.c
  have pTq:T3.dc.Perm (y::T.dc):=e3.2.trans (pp.trans (List.Perm.cons _ st.lS))
  refine vV h1 q1 s1 SS T3 (x.y.ya hf) a1 (x.HS a1 ⟨k2.lS e3.1.df e3.2,a1.n.df.trans x.y.sd,rfl,?_⟩)
  refine(pTq.map iM.row).trans ?_
  rw [cU]
  have:y.row=(key,(false,w1,w2)):=by unfold iM.row;rw [ek,er,ea,eb];rfl
  rw [this]
  exact List.Perm.cons _ x.y.m
theorem aBE(x:Has h q s nd tb hn T A)(sr:Zs h q a key)(hl:key.length≤140737488351232)
  (hR:∀h' q' s' gm T',uB h q s nd T h' q' s' gm T'→Has h' q' s' gm tb hn T' ⟨A.sd,T'.sE,A.rest key⟩→R (vi (if A.cX key then 0 else 63)) h') :
  bq PG 49 #[vp (sa tb),.slice a.a a.n a.c] h R:=by
 refine Z7 x.p x.y.k sr.rd sr.n sr.b8 hl sr.out (fun h1 q1 s1 kq T1 hf a1 st=>?_) fun e r h1 q1 s1 kq T1 lT T2 hf n1 p1 p2 sh en a1=>?_
 ·have hh:=x.y.ya hf
  rw [hh,x.y.ap3 hh]at hR
  exact hR h1 q1 s1 kq T1 a1 (x.HS a1 ⟨x.y.k.lS st.df st.lS,st.df.trans x.y.sd,rfl,(st.lS.map _).trans x.y.m⟩)
 ·have hh:=x.y.wv hf
  obtain⟨hm,hk⟩:=pz hf
  have e3:=en.HS n1.c
  rw [hh]at hR
  refine hR h1 q1 s1 lT T2 a1 (x.HS a1 ⟨x.y.k.cut a1.n.df p1 (e3.2.trans p2),a1.n.df.trans x.y.sd,rfl,?_⟩)
  rw [←hk]
  exact((e3.2.trans p2).map _).trans (x.y.rest p1)
theorem aBu(x:Has h q s nd tb hn T A)(ok:o.Ok h)(ho:∀p,o.key.a=some p→o.kb≠[]→q.bR p.block=.out)(on:o.n=1)
  (hR:∀h' q' s' gm T' A' n,uB h q s nd T h' q' s' gm T'→Has h' q' s' gm tb hn T' A'→aBz A A' o n→R (vi n) h') :
  bq PG 23 #[vp (sa q.hb),vp (sa tb),.agg o.cells.toArray] h R:=by
 refine apA (AF:=o.gone) (AE:=o.key) (AD:=(o.a:Int)) (AC:=(o.b:Int)) (AB:=o.n) ?_
 unfold atI
 refine dh fun h1 e1=>?_
 have k1:bY N h h1:=e1▸cF _ _ _
 have r1:eM h1 h.size o.cells:=by rw [e1];exact du h #[vb o.gone,.slice o.key.a o.key.n o.key.c,uv o.a,uv o.b,vi o.n] 41
 clear e1
 have kk:=ok.kk.cI k1
 rw [show nb h=ad h.size from rfl]
 refine⟨o.key,ia r1 rfl,?_⟩
 refine Qf kk.nil kk.rd kk.n (by have:=kk.len;omega) fun c g Q9 hcr GZ k2=>⟨c,rfl,?_⟩
 have k12:=k1.trans k2
 have r2:=bF k2 r1 _root_.id
 have x2:=x.cI k12
 have TX:Zs g q c o.kb:=⟨hcr,Q9,kk.b8,fun p hp hn=>⟨x.p.g.st.fr (bP k1.1 (GZ p hp).1),(GZ p hp).2⟩⟩
 have a0:=uB.ofN x.p k12
 refine⟨_,(bS r2 0).trans rfl,?_⟩
 cases hg:o.gone with
 |true =>
  exact cr rfl (aBE x2 TX kk.len fun h3 q3 s3 SS T3 a3 x3=>⟨_,rfl,hR h3 q3 s3 SS T3 _ _ (a0.trans a3) x3 (.inl ⟨hg,rfl,rfl⟩)⟩)
 |false =>
  refine cj rfl ⟨_,(bS r2 0).trans rfl,o.key,ia r2 rfl,_,ia r2 rfl,_,ia r2 rfl,_,ia r2 rfl,?_⟩
  refine apt (PB:=(o.a:Int)) (Pl:=(o.b:Int)) ?_
  unfold atr
  refine dh fun h3 e3=>?_
  have k3:bY N g h3:=e3▸cF _ _ _
  have r3:eM h3 g.size o.cells:=by rw [e3];exact du g #[vb o.gone,.slice o.key.a o.key.n o.key.c,uv o.a,uv o.b,vi o.n] 41
  clear e3
  have x3:=x2.cI k3
  have sr3:=TX.cI x2.p.g k3
  have a1:=a0.cI k3
  rw [show nb g=ad g.size from rfl]
  refine⟨o.n,ia r3 rfl,cj (by rw [on];rfl) ?_⟩
  unfold TM
  refine⟨_,ia r3 rfl,_,ia r3 rfl,?_⟩
  by_cases hk:o.kb.length≤4096
  ·refine aBD x3 sr3 hk ok.a ok.b (fun h4 q4 s4 nd4 T4 hh a4 x4=>⟨_,_,rfl,cj rfl ⟨_,rfl,?_⟩⟩) (fun h4 q4 s4 nd4 T4 hh a4 x4=>⟨_,_,rfl,cj rfl ⟨_,rfl,?_⟩⟩) fun h4 q4 s4 nd4 T4 hh a4 x4=>⟨_,_,rfl,cr rfl ⟨_,rfl,?_⟩⟩
   ·exact hR h4 q4 s4 nd4 T4 _ _ (a1.trans a4) x4 (.inr (.inr (.inl ⟨hg,hk,hh,rfl,rfl⟩)))
   ·exact hR h4 q4 s4 nd4 T4 _ _ (a1.trans a4) x4 (.inr (.inr (.inr (.inr ⟨hg,hk,hh,rfl,rfl⟩))))
   ·exact hR h4 q4 s4 nd4 T4 _ _ (a1.trans a4) x4 (.inr (.inr (.inr (.inl ⟨hg,hk,hh,rfl,rfl⟩))))
  ·refine Si x3.p.l x3.p.pos sr3.n (by omega) ⟨_,_,rfl,cj rfl ⟨_,rfl,?_⟩⟩
   exact hR h3 q s nd T ⟨A.sd,T.sE,A.m⟩ _ a1 ⟨x3.p,⟨x.y.k,x.y.sd,rfl,x.y.m⟩,x.rl,x.crq⟩ (.inr (.inl ⟨hg,by omega,rfl,rfl⟩))
theorem aBd (tz:eM h BF (Nt.map fun n=>.int .u8 (n:Nat))) {iN:Int} (l1:128≤iN) (l2:iN≤1048576) {sd:Nat} (t6:sd<18446744073709551616)
  (hR:∀h' q' s' gm tb T',Has h' q' s' gm tb 1 T' (AT.new sd)→bY N h h'→aX h q'→h.size≤tb→tb<h'.size→R (vt #[vp (sa tb),vp (sa q'.hb)]) h') :
  bq PG 20 #[vi iN,uv sd] h R:=by
 refine apC (a1:=(sd:Int)) ?_
 unfold atM
 refine phn (fun hb=>absurd ⟨by omega,by omega⟩ hb) fun h1 q1 _ g1 k1 fr=>⟨_,_,rfl,cj rfl ?_⟩
 unfold am2
 have tz1:Tz h1 q1:=⟨bF k1 tz _root_.id,iq fun hn=>by have:=fr _ hn;have:=eE tz;omega⟩
 have er0:(RS.new iN.toNat).bC=[]:=rfl
 have el0:(RS.new iN.toNat).cM=iN.toNat:=rfl
 have no:∀x,¬vD [(⟨0,[],[]⟩:di)] (RS.new iN.toNat).bC x:=fun x r=>by
  rw [er0]at r
  induction r with
  |root a _=>cases a
  |next _ _ _ _ ih=>exact ih
 have lv:Lv [(⟨0,[],[]⟩:di)] (RS.new iN.toNat).bC []:=⟨gQ,fun x=>⟨nofun,fun r=>absurd r (no x)⟩⟩
 refine cj rfl (af9 g1 tz1 (by rw [er0];simp) t6 (fun h2 q2 s2 lT g2 hm re rl el ex hr=>?_) fun h2 q2 s2 lT tb op hm er el ex auc aub hto hr=>⟨_,_,rfl,cj rfl ?_⟩)
 ·exfalso
  refine hr [] lv ⟨?_,?_⟩
  ·rw [el0];unfold iP;rw [if_pos (by omega)];show 2*(1+0+6)≤iN.toNat-0∧0≤iN.toNat;omega
  ·rw [el0];unfold iP;rw [if_pos (by omega)];show 2*(1+0+6+5)≤iN.toNat-0∧0≤iN.toNat;omega
 ·rw [←ex.1]
  have op1:qA h2 q2 s2 lT tb 1 (wT 1 sd):=op
  rw [er0]at er
  have er':s2.bC=[some 1]:=er
  refine hR h2 q2 s2 lT tb (wT 1 sd) ⟨op1,⟨VO t6,rfl,aaZ _ _,?_⟩,?_,?_⟩ ?_ ?_ ?_ aub
  ·rw [SQ];exact fT _
  ·rw [er'];show 1≤100;omega
  ·rw [er'];show 1≤10;omega
  ·exact(show aX h q1 from fr).gK k1 ex
  ·exact(show aX h q1 from fr).ex k1.1 ex
  ·exact bP k1.1 auc
theorem azl(x:GL 1 h0 h a ob vs)(hi:i<vs.length){v:Value}{K:Hp→Prop}(hK:∀h',GL 1 h0 h' a ob (vs.set i v)→bY (fun b=>ob=some b) h h'→K h'):bE a.a fun p=>Go.Ev.gZ h (p.add ((i:Int).toNat*1))∧gi (fy h (p.add ((i:Int).toNat*1)) v) fun h'=>K h':=by
 rw [bu,cQ]
 cases ob with
 |none =>
  have h1:=x.sl.nil rfl
  have h2:=x.sl.len
  omega
 |some b =>
  obtain⟨ha,hc,j,r,hl⟩:=x.sl.row b rfl
  refine cW ha (eu r (cm _ _) (by rw [bG];omega) fun h' r' k'=>?_)
  refine hK h' ⟨⟨by rw [cd];exact x.sl.len,nofun,fun b' fV=>?_⟩,x.new⟩ ⟨k'.1,fun b' h1 h2=>k'.2 b' h1 fun e=>h2 (by rw [e])⟩
  obtain rfl:=bt fV
  refine⟨ha,hc,j,?_,by rw [cd];exact hl⟩
  rw [←lB _ _ hi]
  exact r'
theorem azD(x:GL 1 h0 h a ob vs)(hm:m≤vs.length):GL 1 h0 h ⟨a.a,m,a.c⟩ ob (vs.take m):=by
 have hn:=x.sl.len
 refine⟨⟨by rw [dm,ji hm,cQ],fun e=>?_,fun b e=>?_⟩,x.new⟩
 ·obtain⟨h1,h2,h3⟩:=x.sl.nil e
  exact⟨h1,by show m=0;omega,h3⟩
 ·obtain⟨ha,hc,j,r,hl⟩:=x.sl.row b e
  refine⟨ha,by show m≤a.c;omega,vs.drop m++j,?_,?_⟩
  ·rw [←ce,eZ];exact r
  ·rw [dm,ji hm,bG,fu];show m+(vs.length-m+j.length)=a.c*1;omega
theorem ay8(x:GL 1 h0 h a ob vs):(if a.c=(0:Int).toNat then a.a else Option.map (fun x=>x.add ((0:Int).toNat*1)) a.a)=a.a:=by
 cases ob with
 |none=>rw [(x.sl.nil rfl).1];split<;>rfl
 |some b =>
  obtain⟨ha,_⟩:=x.sl.row b rfl
  rw [ha]
  split
  ·rfl
  ·rfl
theorem azE(x:GL 1 h0 h a ob vs)(hi:i<vs.length){v:Value}(hv:vs[i]?=some v):∃p,a.a=some p∧cell h (p.add ((i:Int).toNat*1))=some v:=by
 obtain⟨b,hb,ha,hc⟩:=x.at hv
 exact⟨ad b,ha,by rw [bu,cQ];exact hc⟩
theorem aAT(key:LN):∀(ks:List (LN)) (j:Nat),0≤amZ ks key j→∃i,amZ ks key j=((j+i:Nat):Int)∧ks[i]?=some key
 | [],j,h=>by unfold amZ at h;omega
 |k::ks,j,h=>by
  have e0:amZ (k::ks) key j=if k=key then(j:Int)else amZ ks key (j+1):=rfl
  by_cases e:k=key
  ·rw [if_pos e]at e0
   exact⟨0,e0,by rw [e];rfl⟩
  ·rw [if_neg e]at e0
   rw [e0]at h
   obtain⟨i,h1,h2⟩:=aAT key ks (j+1) h
   exact⟨i+1,by rw [e0,h1];omega,h2⟩
end
abbrev KV:=KB × Nat
structure FM (h1 hb g:Hp) (q:HQ) (a5 a6q:Sl) (ob5 ob6:Option Nat) (L:List KV):Prop where
 l5:GL 1 hb g a5 ob5 (L.map fun x=>n8 x.1.1)
 l6:GL 1 hb g a6q ob6 (L.map fun x=>uv x.2)
 ne:∀b,ob5=some b→ob6≠some b
 o5q:∀b,ob5=some b→q.bR b=.out
 o6q:∀b,ob6=some b→q.bR b=.out
 kd:∀x∈L,∃o:aP,o.Ok h1∧x.1=(o.key,o.kb)
 hs:hb.size≤g.size
structure FG (h1 hb g:Hp) (q:HQ) (s:RS) (nd:List di) (tb:Nat) (T:TD) (A:AT) (a5 a6q:Sl) (ob5 ob6:Option Nat) (L:List KV):Prop where
 x:Has g q s nd tb 1 T A
 m:FM h1 hb g q a5 a6q ob5 ob6 L
 ctq:(L.map fun x=>(x.1.2,x.2)).Perm (A.m.map fun r=>(r.1,r.2.2.1))
 k:bY N h1 g
 f:aX h1 q
 Tj:h1.size≤hb.size
 ht:tb<hb.size
 hz:BF<h1.size
def FuJ(h h1 hb:Hp)(tb L0q m:Nat)(s1:Addr)(s3 s4:OA)(s5 s6:Sl)(s7:Int)(g:Hp):Prop :=
 ∃(i:Nat) (q:HQ) (s:RS) (nd:List di) (T:TD) (A:AT) (ob5 ob6:Option Nat) (L:List KV),s1=ad h.size∧s3=some (ad tb)∧s4=some (ad q.hb)∧s7=(i:Int)∧m+i=L0q∧L.length≤i∧FG h1 hb g q s nd tb T A s5 s6 ob5 ob6 L
section
variable {h h' h2 g g' h0 h1 hb h4:Hp} {q q' q2:HQ} {s s' s2 s1:RS} {nd gm lT:List di} {tb hn i j m L0q:Nat} {T T' T2:TD} {A A' A2q:AT} {k key kb:LN} {R:RP} {a c a' a5 a6q a2 a3:Sl} {ob ob5 ob6:Option Nat} {o:aP} {L:List KV} {y:KV} {ops:List aP} {n0:Int} {sd:Nat}
theorem FM.ex(x:FM h1 hb g q a5 a6q ob5 ob6 L)(e:Ex g q g' q'):FM h1 hb g' q' a5 a6q ob5 ob6 L :=
 ⟨x.l5.eG e.gK fun b hb hn=>hn (x.o5q b hb),x.l6.eG e.gK fun b hb hn=>hn (x.o6q b hb),x.ne,fun b hb=>e.out (x.l5.lt hb) (x.o5q b hb),fun b hb=>e.out (x.l6.lt hb) (x.o6q b hb),x.kd,bP x.hs e.2.1⟩
theorem FM.cI(x:FM h1 hb g q a5 a6q ob5 ob6 L)(k:bY N g g'):FM h1 hb g' q a5 a6q ob5 ob6 L:=⟨x.l5.cI k,x.l6.cI k,x.ne,x.o5q,x.o6q,x.kd,bP x.hs k.1⟩
theorem FG.cI(x:FG h1 hb g q s nd tb T A a5 a6q ob5 ob6 L)(k:bY N g g'):FG h1 hb g' q s nd tb T A a5 a6q ob5 ob6 L:=⟨x.x.cI k,x.m.cI k,x.ctq,x.k.trans k,x.f,x.Tj,x.ht,x.hz⟩
theorem FM.ks(x:FM h1 hb g q a5 a6q ob5 ob6 L)(k:bY N h1 g):KS g a5 (L.map (·.1.2)):=by
 have e:L.map (·.1.2)=(L.map (·.1)).map (·.2):=by rw [fh];rfl
 rw [e]
 refine atm (h0:=hb) (ob:=ob5) (by rw [fh];exact x.l5) fun p hp=>?_
 obtain⟨y,hy,rfl⟩:=cy.1 hp
 obtain⟨o,ok,eo⟩:=x.kd y hy
 rw [eo]
 exact⟨fC k ok.kk.rd,ok.kk.n,by have:=ok.kk.len;show o.kb.length<_;omega⟩
theorem axe {ob:Option Nat}(k1:bY N h1 g)(Tj:h1.size≤hb.size)(nw:∀b,ob=some b→hb.size≤b)(k:bY (fun b=>ob=some b) g g'):bY N h1 g' :=
 ⟨bP k1.1 k.1,fun b fV _=>(k.2 b (bZ fV k1.1) fun e=>by have:=nw b e;omega).trans (k1.2 b fV _root_.id)⟩
theorem Has.ay6 {ob:Option Nat}(x:Has g q s nd tb 1 T A)(k:bY (fun b=>ob=some b) g g') (ro:∀b,ob=some b→q.bR b=.out) (nw:∀b,ob=some b→hb.size≤b) (ht:tb<hb.size) (hz:BF<hb.size):Has g' q s nd tb 1 T A :=
 x.HP k ro (fun e=>by have:=nw _ e;omega) fun e=>by have:=nw _ e;omega
theorem aAS(x:aQ T A)(ctq:(L.map fun x=>(x.1.2,x.2)).Perm (A.m.map fun r=>(r.1,r.2.2.1))):(L.map (·.1.2)).Perm A.su:=by
 have:=ctq.map (·.1)
 rw [fh,fh]at this
 exact this
theorem ax9 {α:Type}:∀(l:List α) (i:Nat) (h:i<l.length),(l[i]::l.eraseIdx i).Perm l
 | [],_,h=>by simp at h
 |x::l,0,_=>fT _
 |x::l,i+1,h=>(List.Perm.swap x (l[i]'(by simpa using h)) (l.eraseIdx i)).trans ((ax9 l i (by simpa using h)).cons x)
theorem ayk {α:Type}(a:α):∀(l:List α) (i:Nat) (h:i<l.length),(l.set i a).Perm (a::l.eraseIdx i)
 | [],_,h=>by simp at h
 |x::l,0,_=>fT _
 |x::l,i+1,h=>((ayk a l i (by simpa using h)).cons x).trans (List.Perm.swap a x (l.eraseIdx i))
theorem azK(x:aQ T A)(ctq:(L.map fun x=>(x.1.2,x.2)).Perm (A.m.map fun r=>(r.1,r.2.2.1))) (hi:i<L.length) (e:L[i].1.2=kb):((L.eraseIdx i).map fun x=>(x.1.2,x.2)).Perm ((A.rest kb).map fun r=>(r.1,r.2.2.1)):=by
 have p1:=(ax9 L i hi).map fun x:KV=>(x.1.2,x.2)
 have CV:(L.map (·.1.2)).Nodup:=(aAS x ctq).nodup_iff.2 x.CV
 have p2:=(p1.trans ctq).filter fun y=>decide (y.1≠kb)
 have uo:=((ax9 L i hi).map (·.1.2)).nodup_iff.2 CV
 rw [cU,cV]at uo
 rw [cU,gu (by simp [e]),nY.2]at p2
 ·refine p2.trans ?_
  unfold AT.rest
  rw [List.filter_map]
  exact fT _
 ·intro z hz
  obtain⟨y,hy,rfl⟩:=cy.1 hz
  simp only [decide_eq_true_eq]
  intro e2
  exact uo.1 (by rw [e,←e2];exact cy.2 ⟨y,hy,rfl⟩)
theorem aw1 {n1:Nat}(x:FG h1 hb g q s nd tb T A a5 a6q ob5 ob6 L)(hm:n1+i=L0q)(hi:i<L0q)(hL:L.length≤i+1)(azk:L0q≤300):ayK (FuJ h h1 hb tb L0q) n1 (ad h.size) (sa tb) (sa q.hb) a5 a6q (i:Int) g R:=by
 unfold ayK
 have l5n:a5.n=L.length:=by have:=x.m.l5.len;rw [bA]at this;omega
 have l6n:a6q.n=L.length:=by have:=x.m.l6.len;rw [bA]at this;omega
 have cl:A.m.length=L.length:=by have:=x.ctq.length_eq;rw [bA,bA]at this;omega
 have tlq:T.dc.length=L.length:=by rw [←x.x.y.len];exact cl
 have kp:=aAS x.x.y x.ctq
 refine Z4 x.x.p.tr (by omega) ⟨_,rfl,cj (by rw [l5n,tlq];exact bne_self_eq_false _) ?_⟩
 refine akv x.x.p x.x.y.k fun la ob gw g1 bl hp1 pw1 _ k1=>⟨la,rfl,?_⟩
 have x1:=x.cI k1
 have kl:∀z∈gw,z.key.length≤4096:=fun z hz=>x.x.arH (x.x.y.kp.mem_iff.2 (hp1.mem_iff.1 (cy.2 ⟨z,hz,rfl⟩)))
 have DE:KS g1 la (gw.map (·.key)):=bl.KA fun z hz=>by have:=kl z hz;omega
 refine Z0 1000 (by rw [bA];omega) (by rw [bA];omega) (x1.m.ks x1.k) fun l5 g2 ks5 kk5 pe5 pw5 k2=>⟨l5,rfl,?_⟩
 have x2:=x1.cI k2
 have e5:gw.map (·.key)=ks5:=I3 (hp1.trans (x.x.y.kp.symm.trans (kp.symm.trans pe5.symm))) (hp1.nodup_iff.2 x.x.y.k.ku) pw1 pw5
 rw [e5]at DE
 have k5l:ks5.length=L.length:=by rw [pe5.length_eq,bA]
 refine JR (DE.cI k2) kk5 (by omega) ⟨_,rfl,?_⟩
 rw [decide_eq_true rfl]
 unfold aAF
 refine cj rfl ?_
 clear DE kk5 pe5 pw5 k1 k2 x1 bl hp1 pw1 kl e5 k5l
 refine az0 (fun m s1 s3 s4 s5 s6 s7 pc g=>∃j:Nat,s1=ad h.size∧s3=some (ad tb)∧s4=some (ad q.hb)∧s5=a5∧s6=a6q∧s7=(i:Int)∧pc=(j:Int)∧m+j=L.length∧FG h1 hb g q s nd tb T A a5 a6q ob5 ob6 L) L.length ⟨0,rfl,rfl,rfl,rfl,rfl,rfl,rfl,rfl,x2⟩ ?_
 clear x2 x
 rintro n2 s1 s3 s4 s5 s6 s7 pc-g ⟨j,rfl,rfl,rfl,rfl,rfl,rfl,rfl,hm2,x⟩
 unfold aBf
 have wi:wrap .i64 ((i:Int)+1)=((i+1:Nat):Int):=by rw [bU (by omega) (by omega)];omega
 refine ca (fun fE=>?_) fun o5=>⟨n1-1,by omega,i+1,q,s,nd,T,A,ob5,ob6,L,rfl,rfl,rfl,wi,by omega,hL,x⟩
 have hj:j<L.length:=by omega
 have e1:L[j]?=some L[j]:=br hj
 obtain⟨p,hp,hc⟩:=azE x.m.l5 (i:=j) (v:=n8 L[j].1.1) (by rw [bA];exact hj) (by rw [bD,e1];rfl)
 obtain⟨o,ok,eo⟩:=x.m.kd _ (nQ hj)
 have inA:(L[j].1.2,L[j].2)∈A.m.map fun r=>(r.1,r.2.2.1):=x.ctq.mem_iff.1 (cy.2 ⟨L[j],nQ hj,rfl⟩)
 obtain⟨r,hr,er⟩:=cy.1 inA
 obtain⟨e,he,ee⟩:=cy.1 (x.x.y.m.mem_iff.2 hr)
 have ek:e.key=L[j].1.2:=by rw [←ee]at er;exact congrArg (·.1) er
 have ea:e.a=L[j].2:=by rw [←ee]at er;exact congrArg (·.2) er
 have yL:T.Bz L[j].1.2=some e:=PU x.x.y.k he ek
 have sr:Zs g q L[j].1.1 L[j].1.2:=by rw [eo];exact ok.src x.k x.f
 have kl:L[j].1.2.length≤140737488351232:=by rw [eo];exact ok.kk.len
 refine⟨⟨by omega,fE⟩,cW hp ⟨L[j].1.1,hc,?_⟩⟩
 refine ac7 x.x.p x.x.y.k sr.rd sr.n sr.b8 kl (fun wX=>absurd (wX.symm.trans yL) nofun) fun e' g3 OB k3=>⟨_,_,_,_,rfl,cj rfl ?_⟩
 obtain rfl:e=e':=bt (yL.symm.trans OB)
 have x3:=x.cI k3
 obtain⟨p6,hp6,hc6⟩:=azE x3.m.l6 (i:=j) (v:=uv L[j].2) (by rw [bA];exact hj) (by rw [bD,e1];rfl)
 have l6':s6.n=L.length:=l6n
 refine⟨⟨by omega,by omega⟩,cW hp6 ⟨_,hc6,?_⟩⟩
 unfold aAC
 refine cj (by rw [ea];exact bne_self_eq_false _) ⟨n2-1,by omega,j+1,rfl,rfl,rfl,rfl,rfl,rfl,by rw [bU (by omega) (by omega)];omega,by omega,x3⟩
theorem aAr {L:List KV}(hj:j<L.length):(((L.set j L[L.length-1]).take (L.length-1))).Perm (L.eraseIdx j):=by
 rcases List.eq_nil_or_concat L with h|⟨l,z,h⟩
 ·subst h;simp at hj
 ·rw [List.concat_eq_append]at h
  subst h
  have e1:(l++[z]).length-1=l.length:=by rw [bG];rfl
  have e2:(l++[z])[(l++[z]).length-1]=z:=by
   have:(l++[z])[(l++[z]).length-1]?=some z:=by rw [e1,bN (bH _),dD];rfl
   exact(List.getElem_eq_iff _).2 this
  rw [e2,e1]
  by_cases hl:j<l.length
  ·rw [lB _ _ hl,gB (by rw [cd];exact bH _),eT (by rw [cd];exact bH _),List.eraseIdx_append_of_lt_length hl]
   exact(ayk z l j hl).trans (List.perm_append_singleton _ _).symm
  ·have hj':j=l.length:=by rw [bG]at hj;simp at hj;omega
   subst hj'
   rw [gp _ _ (bH _),dD,List.eraseIdx_append_of_length_le (bH _),dD]
   show ((l++[z]).take l.length).Perm (l++[])
   rw [List.take_left,eV]
theorem FG.AZ(x:FG h1 hb g q s nd tb T A a5 a6q ob5 ob6 L)(e:Ex g q g' q')(y:Has g' q' s' gm tb 1 T' A')(em:A'.m=A.m):FG h1 hb g' q' s' gm tb T' A' a5 a6q ob5 ob6 L :=
 ⟨y,x.m.ex e,by rw [em];exact x.ctq,x.f.gK x.k e,x.f.ex x.k.1 e,x.Tj,x.ht,x.hz⟩
theorem azX {n1 b8:Nat}(x:FG h1 hb g q s nd tb T A a5 a6q ob5 ob6 L)(ok:o.Ok h1)(r:eM g b8 o.cells)(hb8:ob5≠some b8∧ob6≠some b8)(ho:q.bR b8=.out)(on:o.n=1)(hm:n1+i=L0q)(hi:i<L0q)(hL:L.length≤i)(azk:L0q≤300):
  bq PG 22 #[.slice a5.a a5.n a5.c,.slice o.key.a o.key.n o.key.c] g fun r Tl=>∃t54:Int,r=vi t54∧∃zk:Bool,cell Tl (ad b8)=some (vb zk)∧∃adh:Sl,cell Tl ((ad b8).add 1)=some (.slice adh.a adh.n adh.c)∧∃ayI:Int,cell Tl ((ad b8).add 2)=some (vu ayI)∧∃ayH:Int,cell Tl ((ad b8).add 3)=some (vu ayH)∧∃ayG:Int,cell Tl ((ad b8).add 4)=some (vi ayG)∧bq PG 23 #[vp (sa q.hb),vp (sa tb),.agg #[vb zk,.slice adh.a adh.n adh.c,vu ayI,vu ayH,vi ayG]] Tl fun r zC=>∃t58:Int,r=vi t58∧∃t61:Bool,cell zC (ad b8)=some (vb t61)∧bX t61 (azc (FuJ h h1 hb tb L0q) n1 (ad h.size) (sa tb) (sa q.hb) a5 a6q (i:Int) (ad b8) t54 t58 (decide (t54≥(0:Int))) zC R) (azc (FuJ h h1 hb tb L0q) n1 (ad h.size) (sa tb) (sa q.hb) a5 a6q (i:Int) (ad b8) t54 t58 false zC R):=by
 have kk:=ok.kk.cI x.k
 have kp:=aAS x.x.y x.ctq
 have h3:=x.Tj
 have h4:=x.hz
 have l5n:a5.n=L.length:=by have:=x.m.l5.len;rw [bA]at this;omega
 have l6n:a6q.n=L.length:=by have:=x.m.l6.len;rw [bA]at this;omega
 refine lp (x.m.ks x.k) kk.rd kk.n (by rw [bA];omega) ⟨_,rfl,?_⟩
 have PL:0≤amZ (L.map (·.1.2)) o.kb 0↔A.cX o.kb=true:=by rw [u4,A.bj];exact kp.mem_iff
 have aBs:=aAT o.kb (L.map (·.1.2)) 0
 generalize amZ (L.map (·.1.2)) o.kb 0=z at *
 refine⟨_,(bS r 0).trans rfl,o.key,ia r rfl,_,ia r rfl,_,ia r rfl,_,ia r rfl,?_⟩
 refine aBu x.x (ok.cI x.k) (fun p hp hn=>x.f.Tw (ok.kk.src p hp hn)) on fun g2 q2 s2 lT T2 A2q n a2' y2 ftq=>⟨n,rfl,?_⟩
 have r2:=a2'.row r ho
 rw [←a2'.ex.1]
 have m2:=x.m.ex a2'.ex
 have k2:=x.f.gK x.k a2'.ex
 have f2:=x.f.ex x.k.1 a2'.ex
 have fr2:∀b,g2.size≤b→q2.bR b=.out:=fun b hb=>y2.p.g.st.fr hb
 refine⟨_,(bS r2 0).trans rfl,?_⟩
 have aBy:0≤z→∃j:Nat,z=(j:Int)∧∃hj:j<L.length,L[j].1.2=o.kb:=fun hz=>by
  obtain⟨j,e1,e2⟩:=aBs hz
  rw [bD,jd]at e2
  obtain⟨y,hy,ey⟩:=e2
  obtain⟨hj,ej⟩:=bp.1 hy
  exact⟨j,by omega,hj,by rw [ej];exact ey⟩
 have kn:o.key.n=o.kb.length:=ok.kk.n
 cases hg:o.gone with
 |true =>
  have ftq:n=(if A.cX o.kb then 0 else 63)∧A2q.m=A.rest o.kb:=by
   rcases ftq with⟨_,h1,h2⟩|⟨h,_⟩|⟨h,_⟩|⟨h,_⟩|⟨h,_⟩
   ·exact⟨h1,h2⟩
   all_goals (rw [hg]at h;cases h)
  refine cr rfl ?_
  unfold azc
  cases hh:A.cX o.kb with
  |true =>
   rw [hh,if_pos rfl]at ftq
   have hz:z≥0:=PL.2 hh
   obtain⟨j,rfl,hj,ej⟩:=aBy hz
   have o0:0<L.length:=by omega
   have hl1:L.length-1<L.length:=by omega
   have w5:wrap .i64 ((a5.n:Int)-1)=((L.length-1:Nat):Int):=by rw [bU (by omega) (by omega)];omega
   have w6:wrap .i64 ((a6q.n:Int)-1)=((L.length-1:Nat):Int):=by rw [bU (by omega) (by omega)];omega
   rw [w5,w6]
   have eLq:L[L.length-1]?=some L[L.length-1]:=br hl1
   obtain⟨p,hp,hc⟩:=azE m2.l5 (i:=L.length-1) (v:=n8 L[L.length-1].1.1) (by rw [bA];exact hl1) (by rw [bD,eLq];rfl)
   refine cr (decide_eq_true hz) (cj (by rw [ftq.1];rfl) ⟨⟨by omega,by omega⟩,cW hp ⟨L[L.length-1].1.1,hc,⟨by omega,by omega⟩,?_⟩⟩)
   refine azl m2.l5 (i:=j) (v:=n8 L[L.length-1].1.1) (by rw [bA];exact hj) fun g3 gl3 k3=>?_
   have m6q:=m2.l6.eG k3 fun b hb e=>m2.ne b e hb
   obtain⟨p6,hp6,hc6⟩:=azE m6q (i:=L.length-1) (v:=uv L[L.length-1].2) (by rw [bA];exact hl1) (by rw [bD,eLq];rfl)
   refine⟨⟨by omega,by omega⟩,cW hp6 ⟨_,hc6,⟨by omega,by omega⟩,?_⟩⟩
   refine azl m6q (i:=j) (v:=uv L[L.length-1].2) (by rw [bA];exact hj) fun g4 gl4 k4=>?_
   have gl5:=gl3.eG k4 fun b hb e=>m2.ne b hb e
   have c5:L.length≤a5.c:=by
    cases ob5 with
    |none=>have:=(m2.l5.sl.nil rfl).2.1;omega
    |some b=>have:=(m2.l5.sl.row b rfl).2.1;omega
   have c6:L.length≤a6q.c:=by
    cases ob6 with
    |none=>have:=(m2.l6.sl.nil rfl).2.1;omega
    |some b=>have:=(m2.l6.sl.row b rfl).2.1;omega
   refine⟨⟨by omega,by omega⟩,⟨by omega,by omega⟩,⟨by omega,by omega⟩,⟨by omega,by omega⟩,?_⟩
   rw [ay8 m2.l5,ay8 m2.l6]
   show ayK (FuJ h h1 hb tb L0q) n1 (ad h.size) (sa tb) (sa q2.hb) ⟨a5.a,L.length-1,a5.c⟩ ⟨a6q.a,L.length-1,a6q.c⟩ (i:Int) g4 R
   have t5:=azD gl5 (m:=L.length-1) (by rw [cd,bA];omega)
   have t6q:=azD gl4 (m:=L.length-1) (by rw [cd,bA];omega)
   have y4:=(y2.ay6 (hb:=hb) k3 m2.o5q m2.l5.new x.ht (by omega)).ay6 (hb:=hb) k4 m2.o6q m2.l6.new x.ht (by omega)
   have kf:=axe (axe k2 h3 m2.l5.new k3) h3 m2.l6.new k4
   refine aw1 (ob5:=ob5) (ob6:=ob6) (L:=(L.set j L[L.length-1]).take (L.length-1)) ⟨y4,⟨?_,?_,m2.ne,m2.o5q,m2.o6q,fun z hz=>?_,bP m2.hs (bP k3.1 k4.1)⟩,?_,kf,f2,h3,x.ht,h4⟩ hm hi ?_ azk
   ·rw [mM,ig];exact t5
   ·rw [mM,ig];exact t6q
   ·rcases dB (dK hz)with hz|rfl
    ·exact m2.kd z hz
    ·exact m2.kd _ (nQ hl1)
   ·rw [ftq.2]
    exact((aAr hj).map _).trans (azK x.x.y x.ctq hj ej)
   ·rw [dm,cd];omega
  |false =>
   rw [hh,if_neg (by simp)]at ftq
   have hz:¬z≥0:=fun e=>by have:=PL.1 e;rw [hh]at this;cases this
   refine cj (decide_eq_false hz) ⟨_,(bS r2 0).trans rfl,cj (by rw [hg];rfl) ?_⟩
   unfold az3
   refine cj rfl ⟨_,(bS r2 0).trans rfl,cj (by rw [hg];rfl) ?_⟩
   unfold az2
   refine cj rfl ⟨_,(bS r2 0).trans rfl,cr hg (cj (by rw [ftq.1];rfl) ?_)⟩
   exact aw1 (x.AZ a2'.ex y2 (by rw [ftq.2,x.x.y.ap3 hh])) hm hi (by omega) azk
 |false =>
  refine cj rfl ?_
  unfold azc
  refine cj rfl ⟨_,(bS r2 0).trans rfl,cr (by rw [hg];rfl) ?_⟩
  unfold az3
  cases hh:A.cX o.kb with
  |true =>
   have hz:z≥0:=PL.2 hh
   obtain⟨j,rfl,hj,ej⟩:=aBy hz
   have hk:=x.x.arH ((A.bj _).1 hh)
   have ftq:n=3000∧A2q.m=(o.kb,(false,o.a,o.b))::A.rest o.kb:=by
    rcases ftq with⟨h,_⟩|⟨_,h,_⟩|⟨_,_,_,h1,h2⟩|⟨_,_,h,_⟩|⟨_,_,h,_⟩
    ·rw [hg]at h;cases h
    ·omega
    ·exact⟨h1,h2⟩
    ·rw [hh]at h;cases h
    ·rw [hh]at h;cases h
   refine cr (decide_eq_true hz) (cj (by rw [ftq.1];rfl) ⟨_,ia r2 rfl,⟨by omega,by omega⟩,?_⟩)
   have x2:FG h1 hb g2 q2 s2 lT tb T2 ⟨A.sd,T2.sE,A.m⟩ a5 a6q ob5 ob6 L→True:=fun _=>trivial
   refine azl m2.l6 (i:=j) (v:=uv o.a) (by rw [bA];exact hj) fun g3 gl3 k3=>?_
   have y3:=y2.ay6 (hb:=hb) k3 m2.o6q m2.l6.new x.ht (by omega)
   have kf:=axe k2 h3 m2.l6.new k3
   have e5:(L.set j (L[j].1,o.a)).map (fun x=>n8 x.1.1)=L.map fun x=>n8 x.1.1:=by
    rw [ig]
    refine cG fun n=>?_
    rw [eW]
    split
    ·rename_i e;subst e
     rw [if_pos (by rw [bA];exact hj),bD,br hj];rfl
    ·rfl
   refine aw1 (ob5:=ob5) (ob6:=ob6) (L:=L.set j (L[j].1,o.a)) ⟨y3,⟨?_,?_,m2.ne,m2.o5q,m2.o6q,fun z hz=>?_,bP m2.hs k3.1⟩,?_,kf,f2,h3,x.ht,h4⟩ hm hi (by rw [cd];omega) azk
   ·rw [e5];exact m2.l5.eG k3 fun b hb e=>m2.ne b hb e
   ·rw [ig];exact gl3
   ·rcases dB hz with hz|rfl
    ·exact m2.kd z hz
    ·exact(m2.kd _ (nQ hj):∃o:aP,o.Ok h1∧L[j].1=(o.key,o.kb))
   ·refine((ayk (L[j].1,o.a) L j hj).map fun x:KV=>(x.1.2,x.2)).trans ?_
    rw [cU,ftq.2,cU,ej]
    exact List.Perm.cons _ (azK x.x.y x.ctq hj ej)
  |false =>
   have hz:¬z≥0:=fun e=>by have:=PL.1 e;rw [hh]at this;cases this
   refine cj (decide_eq_false hz) ⟨_,(bS r2 0).trans rfl,cr (by rw [hg];rfl) ?_⟩
   unfold az2
   rcases ftq with⟨h,_⟩|⟨_,hk,en,em⟩|⟨_,_,h,_⟩|⟨_,hk,_,en,em⟩|⟨_,hk,_,en,em⟩
   ·rw [hg]at h;cases h
   ·subst en
    refine cj rfl ⟨_,(bS r2 0).trans rfl,cj hg ⟨o.key,ia r2 rfl,cr (decide_eq_true (by omega)) (cj rfl ?_)⟩⟩
    exact aw1 (x.AZ a2'.ex y2 em) hm hi (by omega) azk
   ·rw [hh]at h;cases h
   ·subst en
    refine cr rfl ⟨o.key,ia r2 rfl,?_⟩
    refine m2.l5.add (arr:=#[n8 o.key]) (e:=39) (t:=39) m2.hs rfl rfl (fun v hv=>by simp at hv;rcases hv with rfl;rfl) (by omega) (by omega) fun a' c' g3 aBa gl3 k3 nw3=>?_
    have r3:=bF k3 r2 hb8.1
    refine⟨_,ia r3 rfl,?_⟩
    have m6q:=m2.l6.eG k3 fun b hb e=>m2.ne b e hb
    refine m6q.add (arr:=#[uv o.a]) (e:=27) (t:=27) (bP m2.hs k3.1) rfl rfl (fun v hv=>by simp at hv;rcases hv with rfl;rfl) (by omega) (by omega) fun a6' c6' g4 aBC gl4 k4 nw4=>?_
    have lt5:∀b,aBa=some b→b<g3.size:=fun b e=>gl3.lt e
    have lt6:∀b,ob6=some b→b<g2.size:=fun b e=>m2.l6.lt e
    have ne2:∀b,aBa=some b→ob6≠some b:=fun b e e6=>(nw3 b e).elim (fun h=>m2.ne b h e6) fun h=>by have:=lt6 b e6;omega
    have gl5:=gl3.eG k4 fun b hb e=>ne2 b hb e
    have y4:=(y2.ay6 (hb:=hb) k3 m2.o5q m2.l5.new x.ht (by omega)).ay6 (hb:=hb) k4 m2.o6q m2.l6.new x.ht (by omega)
    have kf:=axe (axe k2 h3 m2.l5.new k3) h3 m2.l6.new k4
    refine aw1 (ob5:=aBa) (ob6:=aBC) (L:=L++[((o.key,o.kb),o.a)]) ⟨y4,⟨?_,?_,fun b e e6=>?_,fun b e=>?_,fun b e=>?_,fun z hz=>?_,bP m2.hs (bP k3.1 k4.1)⟩,?_,kf,f2,h3,x.ht,h4⟩ hm hi ?_ azk
    ·rw [cx];exact gl5
    ·rw [cx];exact gl4
    ·rcases nw4 b e6 with h|h
     ·exact ne2 b e h
     ·have:=lt5 b e;omega
    ·exact(nw3 b e).elim (m2.o5q b) (fr2 b)
    ·exact(nw4 b e).elim (m2.o6q b) fun h=>fr2 b (bP k3.1 h)
    ·rcases bI.1 hz with hz|hz
     ·exact m2.kd z hz
     ·rw [bM.1 hz];exact⟨o,ok,rfl⟩
    ·rw [em,cx,cU]
     exact(List.perm_append_singleton _ _).trans (List.Perm.cons _ x.ctq)
    ·rw [bG];show L.length+1≤i+1;omega
   ·subst en
    refine cj rfl ⟨_,(bS r2 0).trans rfl,cj hg ⟨o.key,ia r2 rfl,cj (decide_eq_false (by omega)) (cj rfl ?_)⟩⟩
    exact aw1 (x.AZ a2'.ex y2 em) hm hi (by omega) azk
theorem aAW (tz:eM h BF (Nt.map fun n=>.int .u8 (n:Nat))) (t6:sd<18446744073709551616) (DG:-9223372036854775808≤n0∧n0<9223372036854775808) (st:aT h a2 ops) (hR:∀h',bY N h h'→R (vb true) h') :
  bq PG 5 #[.agg #[uv sd,vi n0,.slice a2.a a2.n a2.c,.slice a3.a a3.n a3.c]] h R:=by
 refine aBk (pF:=(sd:Int)) ?_
 unfold f5F
 refine dh fun h1 e1=>?_
 have k1:bY N h h1:=e1▸cF _ _ _
 have r1:eM h1 h.size [uv sd,vi n0,.slice a2.a a2.n a2.c,.slice a3.a a3.n a3.c]:=e1▸du h #[uv sd,vi n0,.slice a2.a a2.n a2.c,.slice a3.a a3.n a3.c] 30
 clear e1
 rw [show nb h=ad h.size from rfl]
 have tz1:=bF k1 tz _root_.id
 have hz1:=eE tz1
 have st1:=st.cI k1
 have sn:=st.n
 refine alZ tz1 fun h2 k2=>⟨_,rfl,cj rfl ?_⟩
 have r2:=bF k2 r1 _root_.id
 have m1:=jk n0 (b:=(800:Int)) (by omega)
 have m2:=gI n0 (b:=(800:Int)) (by omega)
 refine⟨_,ia r2 rfl,n0%800,rD (n:=800) (by omega) (by omega) DG ⟨rfl,rfl⟩,_,(bS r2 0).trans rfl,?_⟩
 rw [bU (x:=(128:Int)+n0%800) (by omega) (by omega)]
 refine aBd (bF k2 tz1 _root_.id) (by omega) (by omega) t6 fun h3 q s nd tb T x3 k3 fr3 _ tbl=>⟨_,_,rfl,?_⟩
 have r3:=bF k3 r2 _root_.id
 refine cj rfl ⟨a2,ia r3 rfl,?_⟩
 unfold aBj
 refine ca (fun fE=>hR h3 (k1.trans (k2.trans k3))) fun o5=>?_
 have o0:ops.length≤300:=by omega
 have G3:FG h1 h3 h3 q s nd tb T (AT.new sd) ⟨none,0,0⟩ ⟨none,0,0⟩ none none [] :=
  ⟨x3,⟨GL.nil 1 h3 h3,GL.nil 1 h3 h3,nofun,nofun,nofun,nofun,bH _⟩,fT _,k2.trans k3,fr3.arF k2.1,(k2.trans k3).1,tbl,hz1⟩
 refine az1 (FuJ h h1 h3 tb ops.length) (s5:=⟨none,0,0⟩) (s6:=⟨none,0,0⟩) ops.length ⟨0,q,s,nd,T,AT.new sd,none,none,[],rfl,rfl,rfl,rfl,rfl,bH _,G3⟩ ?_
 clear G3 x3 fr3 tbl r3 r2 k3 k2 o5
 rintro n1 s1 s3 s4 s5 s6 s7-g ⟨i,q,s,nd,T,A,ob5,ob6,L,rfl,rfl,rfl,rfl,hm,hLi,x⟩
 unfold aBi
 have rg:=bF x.k r1 _root_.id
 have sg:=st1.cI x.k
 refine⟨a2,ia rg rfl,ca (fun fE=>?_) fun o5=>hR g (k1.trans x.k)⟩
 have hi:i<ops.length:=by omega
 obtain⟨p,hp,xH,_⟩:=sg.iL i ops[i] (br hi)
 obtain⟨_,_,_,cS⟩:=st1.iL i ops[i] (br hi)
 generalize ops[i]=o at *
 refine⟨a2,ia rg rfl,⟨by omega,fE⟩,cW hp (il xH fun g1 rl kl=>?_)⟩
 rw [show nb g=ad g.size from rfl]
 refine eu rl (i:=4) (cm _ _) (by unfold aP.cells;simp) fun g2 rl2 k2=>?_
 have kl2:bY N g g2:=⟨bP kl.1 k2.1,fun b hb _=>(k2.2 b (bZ hb kl.1) (by show ¬b=g.size;omega)).trans (kl.2 b hb _root_.id)⟩
 have rl2:eM g2 g.size ({o with n:=1}:aP).cells:=rl2
 have ok2:aP.Ok h1 ({o with n:=1}:aP):=⟨cS.kk,cS.a,cS.b⟩
 refine⟨o.key,ia rl2 rfl,?_⟩
 exact azX (o:={o with n:=1}) (x.cI kl2) ok2 rl2 ⟨fun e=>by have:=x.m.l5.lt e;omega,fun e=>by have:=x.m.l6.lt e;omega⟩ (x.x.p.g.st.fr (bH _)) rfl hm hi hLi o0
end
end Go.Ev
