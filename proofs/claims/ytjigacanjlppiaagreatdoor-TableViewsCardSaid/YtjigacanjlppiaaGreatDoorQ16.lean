/- The tour of a story: three lists of byte str. No condition. -/
import Derived.Test.YtjigacanjlppiaaGreatDoorQ15
set_option linter.all false
set_option maxRecDepth 1000000
open Go.IntKind (wrap)
namespace Go.Ev
open Go.Proofs
abbrev KB:=Sl × LN
structure Tr where
 a:Nat→Sl
 b:Nat→Option Nat
 p:Nat→List KB
def Tr.set(D:Tr)(i:Nat)(a':Sl)(b':Option Nat)(p':List KB):Tr:=⟨fun j=>if j=i then a' else D.a j,fun j=>if j=i then b' else D.b j,fun j=>if j=i then p' else D.p j⟩
def Tr.fp(D:Tr)(b:Nat):Prop:=∃j,j<3∧D.b j=some b
def Tr.cells(D:Tr):LV:=[n8 (D.a 0),n8 (D.a 1),n8 (D.a 2)]
def Tr.ks(D:Tr)(j:Nat):List (LN):=(D.p j).map (·.2)
def cut(key:LN)(l:List KB):List KB:=l.filter fun p=>decide (p.2≠key)
theorem HC(key:LN)(l:List KB):(cut key l).map (·.2)=(l.map (·.2)).filter fun k=>decide (k≠key):=by
 unfold cut
 rw [List.filter_map]
 rfl
structure aW (h:Hp) (q:HQ) (pb:Nat) (D:Tr) (p:KB):Prop where
 src:Zs h q p.1 p.2
 len:p.2.length≤140737488351232
 no:∀pp,p.1.a=some pp→p.2≠[]→pp.block≠pb∧¬D.fp pp.block
structure aV (h0 h:Hp) (q:HQ) (pb:Nat) (D:Tr):Prop where
 row:eM h pb D.cells
 new:h0.size≤pb
 out:q.bR pb=.out
 hs:h0.size≤h.size
 l:∀j,j<3→GL 1 h0 h (D.a j) (D.b j) ((D.p j).map fun p=>n8 p.1)
 nb:∀j,j<3→D.b j≠some pb
 ne:∀i j b,i<3→j<3→i≠j→D.b i=some b→D.b j≠some b
 ro:∀j b,j<3→D.b j=some b→q.bR b=.out
 kd:∀j,j<3→∀p∈D.p j,aW h q pb D p
section
variable {h h' h2 g h0 h1 hb:Hp} {q q':HQ} {s1:RS} {hn pb i:Nat} {k key:LN} {R:RP} {a c a':Sl} {ob jK:Option Nat} {o:aP} {ks:List (LN)} {ps ZF:List KB} {S:Nat→Prop} {D:Tr}
theorem Tr.atc(D:Tr):(D.set i a' jK ZF).a i=a':=if_pos rfl
theorem Tr.rX(D:Tr):(D.set i a' jK ZF).b i=jK:=if_pos rfl
theorem Tr.ap0(D:Tr):(D.set i a' jK ZF).p i=ZF:=if_pos rfl
theorem Tr.arq(D:Tr){j:Nat}(h:j≠i):(D.set i a' jK ZF).a j=D.a j:=if_neg h
theorem Tr.bg(D:Tr){j:Nat}(h:j≠i):(D.set i a' jK ZF).b j=D.b j:=if_neg h
theorem Tr.amh(D:Tr){j:Nat}(h:j≠i):(D.set i a' jK ZF).p j=D.p j:=if_neg h
theorem Tr.Y5(D:Tr)(hi:i<3):(D.set i a' jK ZF).cells=D.cells.set i (n8 a'):=by
 match i,hi with
 | 0,_=>rfl
 | 1,_=>rfl
 | 2,_=>rfl
theorem aV.ex(x:aV h0 h q pb D)(e:Ex h q h' q'):aV h0 h' q' pb D where
 row:=bF e.gK x.row fun hn=>hn x.out
 new:=x.new
 out:=e.out (eE x.row) x.out
 hs:=bP x.hs e.2.1
 l:=fun j hj=>(x.l j hj).eG e.gK fun b hb hn=>hn (x.ro j b hj hb)
 nb:=x.nb
 ne:=x.ne
 ro:=fun j b hj hb=>e.out ((x.l j hj).lt hb) (x.ro j b hj hb)
 kd:=fun j hj p hp=>⟨(x.kd j hj p hp).src.ex e,(x.kd j hj p hp).len,(x.kd j hj p hp).no⟩
theorem Zs.amG(e:Zs h q a key)(k:bY S h h')(hS:∀p,a.a=some p→key≠[]→¬S p.block):Zs h' q a key :=
 ⟨tU k e.rd fun p hp hn=>(have Tc:key≠[]:=fun z=>hn (by rw [z];rfl);⟨(e.out p hp Tc).2,hS p hp Tc⟩),e.n,e.b8,fun p hp hn=>⟨(e.out p hp hn).1,bZ (e.out p hp hn).2 k.1⟩⟩
theorem aV.cI(x:aV h0 h q pb D)(k:bY N h h'):aV h0 h' q pb D where
 row:=bF k x.row _root_.id
 new:=x.new
 out:=x.out
 hs:=bP x.hs k.1
 l:=fun j hj=>(x.l j hj).cI k
 nb:=x.nb
 ne:=x.ne
 ro:=x.ro
 kd:=fun j hj p hp=>⟨(x.kd j hj p hp).src.amG k fun _ _ _ e=>e,(x.kd j hj p hp).len,(x.kd j hj p hp).no⟩
theorem atm (gl:GL 1 h0 h a ob (ps.map fun p=>n8 p.1)) (kd:∀p∈ps,dZ h p.1.a (p.2.map bv)∧p.1.n=p.2.length∧p.2.length<140737488355328):KS h a (ps.map (·.2)):=by
 have hl:=gl.len
 rw [bA]at hl
 refine⟨by rw [bA];omega,?_,fun i y hy=>?_⟩
 ·cases ob with
  |none=>have:=gl.sl.nil rfl;omega
  |some b=>exact(gl.sl.row b rfl).2.1
 ·rw [bD,jd]at hy
  obtain⟨p,hp,rfl⟩:=hy
  obtain⟨b,hb,ha,hc⟩:=gl.at (o:=i) (v:=n8 p.1) (by rw [bD,hp];rfl)
  have h1:=kd p (bx hp)
  exact⟨ad b,p.1,ha,hc,h1.1,h1.2.1,h1.2.2⟩
theorem aW.apN {p:KB}(x:aW h q pb D p):dZ h p.1.a (p.2.map bv)∧p.1.n=p.2.length∧p.2.length<140737488355328:=⟨x.src.rd,x.src.n,by have:=x.len;omega⟩
theorem aV.kl(x:aV h0 h q pb D){j:Nat}(hj:j<3):KS h (D.a j) (D.ks j):=atm (x.l j hj) fun p hp=>(x.kd j hj p hp).apN
theorem aW.jR(hi:i<3)(k:bY (fun b=>D.b i=some b) h h1) (nw:∀b,jK=some b→D.b i=some b∨h.size≤b) (k2:bY (fun b=>b=pb) h1 h2) {p:KB} (kp:aW h q pb D p):aW h2 q pb (D.set i a' jK ZF) p:=by
 refine⟨(kp.src.amG k fun pp hp hn e=>(kp.no pp hp hn).2 ⟨i,hi,e⟩).amG k2 fun pp hp hn e=>(kp.no pp hp hn).1 e,kp.len,fun pp hp hn=>⟨(kp.no pp hp hn).1,?_⟩⟩
 rintro⟨j,hj,hb⟩
 by_cases e:j=i
 ·subst e
  rw [Tr.rX]at hb
  rcases nw _ hb with h|h
  ·exact(kp.no pp hp hn).2 ⟨j,hj,h⟩
  ·have:=(kp.src.out pp hp hn).2;omega
 ·rw [Tr.bg D e]at hb
  exact(kp.no pp hp hn).2 ⟨j,hj,hb⟩
theorem aV.jR(x:aV h0 h q pb D)(hi:i<3)(gl:GL 1 h0 h1 a' jK (ZF.map fun p=>n8 p.1)) (k:bY (fun b=>D.b i=some b) h h1) (nw:∀b,jK=some b→D.b i=some b∨h.size≤b) (hp:∀p∈ZF,aW h q pb D p)
  (fr:∀b,h.size≤b→q.bR b=.out) (arh:eM h2 pb (D.set i a' jK ZF).cells) (k2:bY (fun b=>b=pb) h1 h2):aV h0 h2 q pb (D.set i a' jK ZF):=by
 have hpb:pb<h.size:=eE x.row
 have nb':jK≠some pb:=fun e=>(nw pb e).elim (x.nb i hi) (by omega)
 have key:∀p,aW h q pb D p→aW h2 q pb (D.set i a' jK ZF) p:=fun p kp=>aW.jR hi k nw k2 kp
 refine⟨arh,x.new,x.out,bP x.hs (bP k.1 k2.1),fun j hj=>?_,fun j hj=>?_,fun i1 j b hi1 hj iS hb=>?_,fun j b hj hb=>?_,fun j hj p HV=>?_⟩
 ·by_cases e:j=i
  ·subst e
   rw [Tr.atc,Tr.rX,Tr.ap0]
   exact gl.eG k2 fun b hb e=>nb' (e▸hb)
  ·rw [Tr.arq D e,Tr.bg D e,Tr.amh D e]
   exact((x.l j hj).eG k fun b hb e2=>x.ne j i b hj hi e hb e2).eG k2 fun b hb e2=>x.nb j hj (e2▸hb)
 ·by_cases e:j=i
  ·subst e;rw [Tr.rX];exact nb'
  ·rw [Tr.bg D e];exact x.nb j hj
 ·by_cases e1:i1=i
  ·subst e1
   rw [Tr.rX]at hb
   rw [Tr.bg D (Ne.symm iS)]
   rcases nw _ hb with h|h
   ·exact x.ne i1 j b hi1 hj iS h
   ·intro e2;have:=(x.l j hj).lt e2;omega
  ·rw [Tr.bg D e1]at hb
   by_cases e2:j=i
   ·subst e2
    rw [Tr.rX]
    intro e3
    rcases nw _ e3 with h|h
    ·exact x.ne i1 j b hi1 hj iS hb h
    ·have:=(x.l i1 hi1).lt hb;omega
   ·rw [Tr.bg D e2];exact x.ne i1 j b hi1 hj iS hb
 ·by_cases e:j=i
  ·subst e
   rw [Tr.rX]at hb
   rcases nw _ hb with h|h
   ·exact x.ro j b hj h
   ·exact fr b h
  ·rw [Tr.bg D e]at hb;exact x.ro j b hj hb
 ·by_cases e:j=i
  ·subst e;rw [Tr.ap0]at HV;exact key p (hp p HV)
  ·rw [Tr.amh D e]at HV;exact key p (x.kd j hj p HV)
theorem apO {k k':LN}(ra:dZ h a.a (k.map bv)) (na:a.n=k.length) (hl:k.length<140737488355328) (rc:dZ h c.a (k'.map bv)) (nc:c.n=k'.length) (hR:R (vb (decide (k=k'))) h):bq PG 51 #[.slice a.a a.n a.c,.slice c.a c.n c.c] h R:=by
 refine ab9 (a0:=a) (a1:=c) ?_
 unfold aoe
 refine agb ra na hl rc nc ?_
 refine⟨_,rfl,?_⟩
 by_cases e:k=k'
 ·rw [decide_eq_true e]at hR
  rw [e,vx];exact hR
 ·rw [decide_eq_false e]at hR
  rw [(beq_eq_false_iff_ne (a:=i0 k k') (b:=0)).2 fun h=>e (ug h)];exact hR
def amZ:List (LN)→LN→Nat→Int
 | [],_,_=>-1
 |k::ks,key,i=>if k=key then(i:Int)else amZ ks key (i+1)
theorem u4(key:LN):∀(ks:List (LN)) (i:Nat),0≤amZ ks key i↔key∈ks
 | [],i=>by unfold amZ;simp
 |k::ks,i=>by
  unfold amZ
  by_cases e:k=key
  ·rw [if_pos e,e];simp
  ·rw [if_neg e,u4 key ks (i+1),ck]
   exact⟨.inr,fun h=>h.resolve_left fun z=>e z.symm⟩
theorem lp(x:KS h a ks)(rc:dZ h c.a (key.map bv)) (nc:c.n=key.length) (o0:ks.length<4611686018427387904) (hR:R (vi (amZ ks key 0)) h):bq PG 22 #[.slice a.a a.n a.c,.slice c.a c.n c.c] h R:=by
 have xn:=x.n
 refine apB ?_
 unfold atJ
 refine D6 (s0:=a) (s1:=c) (fun p s0 s1 s5 h'=>∃i:Nat,i≤ks.length∧p=ks.length-i∧a=s0∧c=s1∧s5=(i:Int)∧h=h'∧amZ (ks.drop i) key i=amZ ks key 0) ks.length ⟨0,cP _,rfl,rfl,rfl,rfl,rfl,rfl⟩ ?_
 rintro p s0 s1 s5 g0 h' ⟨i,hi,rfl,rfl,rfl,rfl,rfl,hs⟩
 unfold amW
 refine ca (fun fE=>?_) fun o5=>?_
 ·have iZ:i<ks.length:=by omega
  have e1:ks[i]?=some (ks[i]'iZ):=br iZ
  rw [d8 iZ]at hs
  generalize ks[i]'iZ=k at e1 hs
  have hs:(if k=key then(i:Int)else amZ (ks.drop (i+1)) key (i+1))=amZ ks key 0:=hs
  obtain⟨p,c1,ha,hc,r1,n1,l1⟩:=x.TJ i k e1
  refine⟨⟨by omega,by omega⟩,cW ha ⟨c1,by rw [bu,cQ];exact hc,apO r1 n1 l1 rc nc ⟨_,rfl,?_⟩⟩⟩
  refine ca (fun e=>?_) fun e=>?_
  ·rw [if_pos e]at hs
   rw [←hs]at hR
   exact hR
  ·rw [if_neg e]at hs
   exact⟨ks.length-(i+1),by omega,i+1,iZ,rfl,rfl,rfl,by rw [bU (by omega) (by omega)];rfl,rfl,hs⟩
 ·obtain rfl:i=ks.length:=by omega
  rw [gv]at hs
  rw [←hs]at hR
  exact hR
theorem y0 (gl:GL 1 h0 h a ob (ps.map fun p=>n8 p.1)) (kd:∀p∈ps,dZ h p.1.a (p.2.map bv)∧p.1.n=p.2.length∧p.2.length<140737488355328) (rc:dZ h c.a (key.map bv)) (nc:c.n=key.length) (o0:ps.length<300000000)
  (hR:∀a' jK h',GL 1 h h' a' jK ((cut key ps).map fun p=>n8 p.1)→bY N h h'→R (.slice a'.a a'.n a'.c) h'):bq PG 35 #[.slice a.a a.n a.c,.slice c.a c.n c.c] h R:=by
 have xn:a.n=ps.length:=by have:=gl.len;rw [bA]at this;omega
 refine apx ?_
 unfold atA
 refine D2 (s0:=a) (s1:=c) (s5:=⟨none,0,0⟩) (fun p s0 s1 s5 s6 g=>∃(i:Nat) (jK:Option Nat),i≤ps.length∧p=ps.length-i∧a=s0∧c=s1∧s6=(i:Int)∧GL 1 h g s5 jK ((cut key (ps.take i)).map fun p=>n8 p.1)∧bY N h g) ps.length ⟨0,none,cP _,rfl,rfl,rfl,rfl,GL.nil 1 h h,bY.refl _ _⟩ ?_
 rintro p s0 s1 s5 s6 g0 g ⟨i,ob1,hi,rfl,rfl,rfl,rfl,g1,kg⟩
 unfold amS
 refine ca (fun fE=>?_) fun o5=>?_
 ·have iZ:i<ps.length:=by omega
  have e1:ps[i]?=some (ps[i]'iZ):=br iZ
  have et:ps.take (i+1)=ps.take i++[ps[i]'iZ]:=by rw [jP,e1];rfl
  generalize ps[i]'iZ=p at e1 et
  obtain⟨b,hb,ha,hc⟩:=gl.at (o:=i) (v:=n8 p.1) (by rw [bD,e1];rfl)
  obtain⟨r1,n1,l1⟩:=kd p (bx e1)
  have cg:=qP kg hc
  have sn:s5.n≤ps.length:=by
   have h1:=g1.len
   have h2:(cut key (ps.take i)).length≤(ps.take i).length:=dT _ _
   rw [bA]at h1
   rw [dm]at h2
   omega
  have wi:wrap .i64 ((i:Int)+1)=((i+1:Nat):Int):=by rw [bU (by omega) (by omega)];omega
  refine⟨⟨by omega,by omega⟩,cW ha ⟨p.1,by rw [bu,cQ];exact cg,apO (fC kg r1) n1 l1 (fC kg rc) nc ⟨_,rfl,?_⟩⟩⟩
  by_cases e:p.2=key
  ·refine cj (by rw [decide_eq_true e];rfl) ?_
   unfold TV
   refine⟨ps.length-(i+1),by omega,i+1,ob1,iZ,rfl,rfl,rfl,wi,?_,kg⟩
   rw [et]
   unfold cut at g1 ⊢
   rw [gG,gu (by simp [e])]
   simpa using g1
  ·refine cr (by rw [decide_eq_false e];rfl) ⟨⟨by omega,by omega⟩,cW ha ⟨p.1,by rw [bu,cQ];exact cg,?_⟩⟩
   refine g1.add (arr:=#[n8 p.1]) (e:=39) (t:=39) kg.1 rfl rfl (fun v hv=>by simp at hv;rcases hv with rfl;rfl) (by omega) (by omega) fun a' c' g' jK gl' k' nw=>?_
   unfold TV
   refine⟨ps.length-(i+1),by omega,i+1,jK,iZ,rfl,rfl,rfl,wi,?_,cL kg k' fun b e=>g1.new b e⟩
   rw [et]
   unfold cut at gl' ⊢
   rw [gG,fI (by simp [e]),cx]
   exact gl'
 ·obtain rfl:i=ps.length:=by omega
  rw [dE]at g1
  exact hR s5 ob1 g g1 kg
end
structure Good (M:Nat) (h0 hb h:Hp) (q:HQ) (s:RS) (nd:List di) (tb:Nat) (T:TD) (A:AT) (pb:Nat) (D:Tr):Prop where
 x:aN M h q s nd tb 1 T A
 m:aV hb h q pb D
 k:bY N h0 h
 f:aX h0 q
 WJ:h0.size≤hb.size
 ht:tb<hb.size
 hz:BF<h0.size
section
variable {h h' h2 g h0 h1 hb h4:Hp} {q q':HQ} {s s':RS} {nd gm:List di} {tb hn pb i M:Nat} {T T':TD} {A A':AT} {k key kb:LN} {a c a':Sl} {jK:Option Nat} {o:aP} {ZF:List KB} {D:Tr}
theorem Good.PX(x:Good M h0 hb h q s nd tb T A pb D)(y:aN M h' q' s' gm tb 1 T' A')(e:Ex h q h' q'):Good M h0 hb h' q' s' gm tb T' A' pb D:=⟨y,x.m.ex e,x.f.gK x.k e,x.f.ex x.k.1 e,x.WJ,x.ht,x.hz⟩
theorem Good.cI(x:Good M h0 hb h q s nd tb T A pb D)(k:bY N h h'):Good M h0 hb h' q s nd tb T A pb D:=⟨x.x.cI k,x.m.cI k,x.k.trans k,x.f,x.WJ,x.ht,x.hz⟩
theorem Good.kA(x:Good M h0 hb h q s nd tb T A pb D)(ok:o.Ok h0):aW h q pb D (o.key,o.kb):=by
 refine⟨ok.src x.k x.f,ok.kk.len,fun pp hp hn=>?_⟩
 have h1:=ok.kk.src pp hp hn
 have h2:=x.WJ
 have h3:=x.m.new
 exact⟨by omega,fun⟨j,hj,hb⟩=>by have:=(x.m.l j hj).new _ hb;omega⟩
theorem Good.store(x:Good M h0 hb h q s nd tb T A pb D)(hi:i<3){ays:Addr}(ha:ays=⟨pb,i,none⟩)(gl:GL 1 hb h1 a' jK (ZF.map fun p=>n8 p.1)) (k:bY (fun b=>D.b i=some b) h h1) (nw:∀b,jK=some b→D.b i=some b∨h.size≤b) (hp:∀p∈ZF,aW h q pb D p)
  {K:Hp→Prop} (hK:∀h2,Good M h0 hb h2 q s nd tb T A pb (D.set i a' jK ZF)→bY (fun b=>b=pb) h1 h2→K h2):Go.Ev.St h1 ays (.slice a'.a a'.n a'.c) fun h2=>K h2:=by
 have r1:eM h1 pb D.cells:=bF k x.m.row (x.m.nb i hi)
 refine eu r1 ha (by unfold Tr.cells;exact hi) fun h2 r2 k2=>?_
 have fr:∀b,h.size≤b→q.bR b=.out:=fun b hb=>x.x.p.g.st.fr hb
 have m2:=x.m.jR hi gl k nw hp fr (by rw [Tr.Y5 D hi];exact r2) k2
 have kk:bY N h0 h1:=⟨bP x.k.1 k.1,fun b fV _=>(k.2 b (bZ fV x.k.1) fun e=>by have h3:=(x.m.l i hi).new b e;have:=x.WJ;omega).trans (x.k.2 b fV _root_.id)⟩
 have Kk:bY N h0 h2:=⟨bP kk.1 k2.1,fun b fV _=>(k2.2 b (bZ fV kk.1) fun e=>by have h3:=x.m.new;have:=x.WJ;omega).trans (kk.2 b fV _root_.id)⟩
 have h3:=x.m.new
 have h4:=x.WJ
 have h5:=x.ht
 have h6:=x.hz
 refine hK h2 ⟨(x.x.HP k (fun b e=>x.m.ro i b hi e) (fun e=>by have:=(x.m.l i hi).new _ e;omega) fun e=>by have:=(x.m.l i hi).new _ e;omega).HP k2 (fun b e=>e▸x.m.out) (fun e=>by omega) fun e=>by omega,m2,Kk,x.f,x.WJ,x.ht,x.hz⟩ k2
theorem Good.cut(x:Good M h0 hb h q s nd tb T A pb D)(hi:i<3)(rc:dZ h c.a (key.map bv)) (nc:c.n=key.length) (hl:(D.p i).length<300000000) {ays:Addr} (ha:ays=⟨pb,i,none⟩) {K:Hp→Prop}
  (hK:∀h5 a' jK,Good M h0 hb h5 q s nd tb T A pb (D.set i a' jK (Go.Ev.cut key (D.p i)))→(∀c cs,eM h c cs→c≠pb→eM h5 c cs)→K h5) :
  bq PG 35 #[.slice (D.a i).a (D.a i).n (D.a i).c,.slice c.a c.n c.c] h fun r h4=>∃t:Sl,r=.slice t.a t.n t.c∧bE (sa pb) fun _=>Go.Ev.St h4 ays (.slice t.a t.n t.c) fun h5=>K h5 :=
 y0 (x.m.l i hi) (fun p hp=>(x.m.kd i hi p hp).apN) rc nc hl fun a' jK h4 gl k4 =>
  ⟨a',rfl,bw (x.store hi ha (jK:=jK) (ZF:=Go.Ev.cut key (D.p i)) ⟨gl.sl,fun b e=>bP x.m.hs (gl.new b e)⟩ (k4.mono fun _ _ e=>e.elim) (fun b e=>.inr (gl.new b e)) (fun p hp=>x.m.kd i hi p (dU.1 hp).1) fun h5 g5 k5=>hK h5 a' jK g5 fun c cs r hc=>bF k5 (bF k4 r _root_.id) hc)⟩
end
structure tm (A:AT) (o:aP) (D D':Tr):Prop where
 g:o.gone=true→∀j,j<3→D'.p j=cut o.kb (D.p j)
 otq:o.gone=false→∀j,j≠0→D'.p j=D.p j
 n:o.gone=false→D'.p 0=if o.kb.length≤4096∧A.cX o.kb=false then D.p 0++[(o.key,o.kb)]else D.p 0
section
variable {h h' g h0 h1 hb:Hp} {q q':HQ} {s s':RS} {nd gm:List di} {tb hn pb i M:Nat} {T T':TD} {A:AT} {k key kb:LN} {R:RP} {a c a':Sl} {ob jK:Option Nat} {o:aP} {ks:List (LN)} {ZF:List KB} {D D':Tr}
theorem AT.bj(A:AT)(k:LN):A.cX k=true↔k∈A.su:=by
 unfold AT.cX AT.Bz AT.su
 rw [List.find?_isSome]
 constructor
 ·rintro⟨p,hp,e⟩;exact cy.2 ⟨p,hp,of_decide_eq_true e⟩
 ·intro h;obtain⟨p,hp,e⟩:=cy.1 h;exact⟨p,hp,decide_eq_true e⟩
theorem AT.ta(A:AT)(k:LN):(A.rest k).map (·.1)=A.su.filter fun y=>decide (y≠k):=by
 unfold AT.rest AT.su
 rw [List.filter_map]
 rfl
theorem DT {l:List (LN)} (hn:l.Nodup) (hm:k∈l):(k::l.filter fun y=>decide (y≠k)).Perm l:=by
 have e:(l.filter fun y=>decide (y≠k))=l.erase k:=by
  rw [hn.erase_eq_filter]
  refine List.filter_congr fun y _=>?_
  by_cases h:y=k<;>simp [h]
 rw [e]
 exact(List.perm_cons_erase hm).symm
theorem tm.su(x:tm A o D D')(hn:A.su.Nodup)(p:(D.ks 0).Perm A.su):(D'.ks 0).Perm (A.step o).su:=by
 unfold AT.step
 cases hg:o.gone with
 |true =>
  rw [if_pos rfl]
  have e1:D'.ks 0=(D.ks 0).filter fun y=>decide (y≠o.kb):=by unfold Tr.ks;rw [x.g hg 0 (by omega),HC]
  have e2:(A.u5 o.kb).su=A.su.filter fun y=>decide (y≠o.kb):=by
   rw [←A.ta]
   unfold AT.u5
   split<;>rfl
  rw [e1,e2]
  exact p.filter _
 |false =>
  rw [if_neg (by simp)]
  have e1:=x.n hg
  unfold AT.lay
  by_cases hk:o.kb.length≤4096
  ·rw [if_pos hk]
   have e2:∀r,(A.put o.kb r).su=o.kb::A.su.filter fun y=>decide (y≠o.kb):=fun r=>by
    rw [←A.ta]
    unfold AT.put
    split<;>rfl
   rw [e2]
   cases hh:A.cX o.kb with
   |true =>
    rw [if_neg (by rw [hh];simp)]at e1
    have:D'.ks 0=D.ks 0:=by unfold Tr.ks;rw [e1]
    rw [this]
    exact p.trans (DT hn ((A.bj _).1 hh)).symm
   |false =>
    rw [if_pos ⟨hk,hh⟩]at e1
    have e3:D'.ks 0=D.ks 0++[o.kb]:=by unfold Tr.ks;rw [e1,cx];rfl
    have e4:(A.su.filter fun y=>decide (y≠o.kb))=A.su:=nY.2 fun y hy=>decide_eq_true fun e=>by
     have:=(A.bj o.kb).2 (e▸hy)
     rw [hh]at this;cases this
    rw [e3,e4]
    exact(List.perm_append_singleton _ _).trans (p.cons _)
  ·rw [if_neg hk]
   rw [if_neg (fun z=>hk z.1)]at e1
   have:D'.ks 0=D.ks 0:=by unfold Tr.ks;rw [e1]
   rw [this];exact p
theorem Y4(x:Good M h0 hb h q s nd tb T A pb D)(ok:o.Ok h0)(S4:(D.ks 0).Perm A.su) (hA:A.m.length<M) (hl:∀j,j<3→(D.p j).length≤1000000)
  (hR:∀h' q' s' gm T' D',Good M h0 hb h' q' s' gm tb T' (A.step o) pb D'→q'.hb=q.hb→tm A o D D'→R (vb true) h') :
  bq PG 29 #[vp (sa pb),vp (sa q.hb),vp (sa tb),.agg o.cells.toArray] h R:=by
 refine apz (alK:=o.gone) (alH:=o.key) (PB:=(o.a:Int)) (Pl:=(o.b:Int)) (alD:=o.n) ?_
 unfold atH
 refine dh fun h1 e1=>?_
 have k1:bY N h h1:=e1▸cF _ _ _
 have r1:eM h1 h.size o.cells:=by rw [e1];exact du h #[vb o.gone,.slice o.key.a o.key.n o.key.c,uv o.a,uv o.b,vi o.n] 41
 clear e1
 have ob:q.bR h.size=.out:=x.x.p.g.st.fr (bH _)
 have hpb:pb<h.size:=eE x.m.row
 rw [show nb h=ad h.size from rfl]
 have x1:=x.cI k1
 have ky:=x1.kA ok
 have at3:(D.ks 0).length<4611686018427387904:=by unfold Tr.ks;rw [bA];have:=hl 0 (by omega);omega
 have PL:0≤amZ (D.ks 0) o.kb 0↔A.cX o.kb=true:=by rw [u4,A.bj];exact S4.mem_iff
 generalize hz:amZ (D.ks 0) o.kb 0=z at *
 refine bw ⟨D.a 0,(bS x1.m.row 0).trans rfl,o.key,ia r1 rfl,z,lp (x1.m.kl (by omega)) ky.src.rd ky.src.n at3 ⟨by rw [hz],rfl⟩,?_⟩
 refine⟨_,(bS r1 0).trans rfl,o.key,ia r1 rfl,_,ia r1 rfl,_,ia r1 rfl,_,ia r1 rfl,?_⟩
 refine al0 x1.x (ok.cI x1.k) (fun p hp hn=>(ky.src.out p hp hn).1) hA fun h3 q3 s3 SS T3 a3 y3=>⟨_,rfl,?_⟩
 have x3:=x1.PX y3 a3.ex
 have r3:=a3.row r1 ob
 have ky3:=x3.kA ok
 have ct:A.ans o=if o.gone then(if A.cX o.kb then 0 else 63)else A.vw o.kb:=rfl
 have hlR:A.vw o.kb=if o.kb.length≤4096 then(if A.cX o.kb then 3000 else 2000)else 3062:=rfl
 generalize A.ans o=an at *
 refine⟨_,(bS r3 0).trans rfl,?_⟩
 cases hg:o.gone with
 |true =>
  rw [hg,if_pos rfl]at ct
  refine cr rfl (bw ⟨D.a 0,(bS x3.m.row 0).trans rfl,o.key,ia r3 rfl,?_⟩)
  refine x3.cut (i:=0) (by omega) ky3.src.rd ky3.src.n (by have:=hl 0 (by omega);omega) (ays:=ad pb) rfl fun h5 a5 b5 x5 j5=>?_
  have r5:=j5 _ _ r3 (by omega)
  have ky5:=x5.kA ok
  refine bw ⟨D.a 1,by rw [cm];exact(bS x5.m.row 1).trans rfl,o.key,ia r5 rfl,?_⟩
  refine x5.cut (i:=1) (by omega) ky5.src.rd ky5.src.n (by have:=hl 1 (by omega);show (D.p 1).length<_;omega) (ays:=(ad pb).add 1) (cm _ _) fun h7 a7 b7 x7 j7=>?_
  have r7:=j7 _ _ r5 (by omega)
  have ky7:=x7.kA ok
  refine bw ⟨D.a 2,by rw [cm];exact(bS x7.m.row 2).trans rfl,o.key,ia r7 rfl,?_⟩
  refine x7.cut (i:=2) (by omega) ky7.src.rd ky7.src.n (by have:=hl 2 (by omega);show (D.p 2).length<_;omega) (ays:=(ad pb).add 2) (cm _ _) fun h9 a9 b9 x9 _=>?_
  have nA:=hR h9 q3 s3 SS T3 _ x9 a3.ex.1 ⟨fun _ j hj=>by
   match j,hj with
   | 0,_=>rfl
   | 1,_=>rfl
   | 2,_=>rfl,fun e=>absurd e (by rw [hg];simp),fun e=>absurd e (by rw [hg];simp)⟩
  cases hh:A.cX o.kb with
  |true =>
   rw [hh,if_pos rfl]at ct
   have hz0:z≥0:=PL.2 hh
   refine cr (decide_eq_true hz0) (cr (by rw [ct];rfl) nA)
  |false =>
   rw [hh,if_neg (by simp)]at ct
   have hz0:¬z≥0:=fun e=>by have:=PL.1 e;rw [hh]at this;cases this
   refine cj (decide_eq_false hz0) (cr (by rw [decide_eq_false hz0];rfl) ?_)
   rw [ct]
   exact nA
 |false =>
  rw [hg,if_neg (by simp),hlR]at ct
  have kn:o.key.n=o.kb.length:=ok.kk.n
  have AZ:∀(E:tm A o D D),R (vb true) h3:=fun E=>hR h3 q3 s3 SS T3 D x3 a3.ex.1 E
  refine cj rfl ⟨o.key,ia r3 rfl,ca (fun fE=>?_) fun o5=>?_⟩
  ·rw [if_neg (by omega)]at ct
   rw [ct]
   exact AZ ⟨fun e=>absurd e (by rw [hg];simp),fun _ _ _=>rfl,fun _=>by rw [if_neg (fun z=>by have:=z.1;omega)]⟩
  ·have hk:o.kb.length≤4096:=by omega
   rw [if_pos hk]at ct
   cases hh:A.cX o.kb with
   |true =>
    rw [hh,if_pos rfl]at ct
    have hz0:z≥0:=PL.2 hh
    refine cj (by rw [decide_eq_true hz0];rfl) ?_
    unfold T0
    refine cr (decide_eq_true hz0) (cr (by rw [ct];rfl) ?_)
    exact AZ ⟨fun e=>absurd e (by rw [hg];simp),fun _ _ _=>rfl,fun _=>by rw [if_neg (fun z=>by rw [hh]at z;cases z.2)]⟩
   |false =>
    rw [hh,if_neg (by simp)]at ct
    have hz0:¬z≥0:=fun e=>by have:=PL.1 e;rw [hh]at this;cases this
    refine cr (by rw [decide_eq_false hz0];rfl) (bw ⟨D.a 0,(bS x3.m.row 0).trans rfl,o.key,ia r3 rfl,dh fun Dq e10=>?_⟩)
    have k10:bY N h3 Dq:=e10▸cF _ _ _
    have r10:eM Dq h3.size [n8 o.key]:=e10▸du h3 #[n8 o.key] 39
    clear e10
    have x10:=x3.cI k10
    have at9:=x10.kA ok
    have n0:(D.a 0).n=(D.p 0).length:=by have:=(x10.m.l 0 (by omega)).len;rw [bA]at this;omega
    have l0:=hl 0 (by omega)
    refine⟨⟨D.a 0,(bS x10.m.row 0).trans rfl,rfl⟩,[n8 o.key],lQ r10 (fun j v hj=>by rw [fo];exact hj),rfl,?_⟩
    refine(x10.m.l 0 (by omega)).Av (bP x10.m.hs (bH _)) rfl rfl (fun v hv=>by simp at hv;rcases hv with rfl;rfl) (by omega) (by omega) fun a' c' Aj jK gl kk nw=>?_
    refine bw (x10.store (i:=0) (by omega) (ays:=ad pb) rfl (a':=⟨a',(D.a 0).n+1,c'⟩) (ZF:=D.p 0++[(o.key,o.kb)]) (by rw [cx];exact gl) kk nw (fun p hp=>?_) fun Tl x12 _=>?_)
    ·rcases bI.1 hp with hp|hp
     ·exact x10.m.kd 0 (by omega) p hp
     ·rw [bM.1 hp];exact at9
    ·unfold T0
     refine cj (decide_eq_false hz0) (cr (by rw [decide_eq_false hz0];rfl) ?_)
     rw [ct]
     exact hR Tl q3 s3 SS T3 _ x12 a3.ex.1 ⟨fun e=>absurd e (by rw [hg];simp),fun _ j hj=>if_neg hj,fun _=>by rw [if_pos ⟨hk,hh⟩];rfl⟩
end
namespace AT
def run(A:AT)(l:List aP):AT:=l.foldl step A
end AT
section
variable {A:AT} {k:LN} {o:aP} {ops:List aP}
theorem AT.S0(A:AT)(k k2:LN):(A.rest k).find? (fun p=>decide (p.1=k2))=if k2=k then none else A.Bz k2:=by
 unfold AT.rest AT.Bz
 rw [List.find?_filter]
 by_cases e:k2=k
 ·rw [if_pos e,mu]
  intro p hp h
  simp only [eD,decide_eq_true_eq]at h
  exact h.1 (h.2.trans e)
 ·rw [if_neg e]
  congr 1
  funext p
  by_cases h:p.1=k2
  ·rw [h];simp [e]
  ·simp [h]
theorem AT.zr(A:AT)(k k2:LN)(r:a8):(A.put k r).Bz k2=if k2=k then some (k,r)else A.Bz k2:=by
 have h:(A.put k r).Bz k2=((k,r)::A.rest k).find? (fun p=>decide (p.1=k2)):=by
  unfold AT.put AT.Bz
  split<;>rfl
 rw [h,List.find?_cons]
 by_cases e:k2=k
 ·rw [if_pos e,e];simp
 ·rw [if_neg e]
  have:decide ((k,r).1=k2)=false:=decide_eq_false fun z=>e z.symm
  rw [this]
  show (A.rest k).find? _=_
  rw [A.S0,if_neg e]
theorem AT.anp(A:AT)(k k2:LN):(A.u5 k).Bz k2=if k2=k then none else A.Bz k2:=by
 have h:(A.u5 k).Bz k2=(A.rest k).find? (fun p=>decide (p.1=k2)):=by
  unfold AT.u5 AT.Bz
  split<;>rfl
 rw [h,A.S0]
theorem AT.aoP(A:AT)(h:o.kb≠k):(A.step o).Bz k=A.Bz k:=by
 unfold AT.step AT.lay
 split
 ·rw [A.anp,if_neg (Ne.symm h)]
 ·split
  ·rw [A.zr,if_neg (Ne.symm h)]
  ·rfl
theorem AT.aoQ(A:AT)(hl:o.kb.length≤4096):(A.step o).Bz o.kb=if o.gone then none else some (o.kb,(evn o.n,o.a,o.b)):=by
 unfold AT.step AT.lay
 split
 ·rw [A.anp,if_pos rfl]
 ·first|rw [if_pos hl,A.zr,if_pos rfl] |rw [A.zr,if_pos rfl]
theorem AT.amj(l:List aP):∀(A:AT),(∀o∈l,o.kb≠k)→(A.run l).Bz k=A.Bz k:=by
 induction l with
 |nil=>intro A _;rfl
 |cons o l ih =>
  intro A h
  show ((A.step o).run l).Bz k=_
  rw [ih _ fun o ho=>h o (bJ _ ho),A.aoP (h o (bQ ..))]
theorem AT.R2(A:AT)(l m:List aP):A.run (l++m)=(A.run l).run m:=List.foldl_append ..
theorem AT.ao8(l:List aP):∀(A:AT),(A.run l).m.length≤A.m.length+l.length:=by
 induction l with
 |nil=>intro A;exact bH _
 |cons o l ih =>
  intro A
  have h1:=ih (A.step o)
  have h2:=A.u7 o
  show ((A.step o).run l).m.length≤_
  rw [dF];omega
theorem AT.aru(l:List aP):∀(A:AT),(A.run l).sd=A.sd:=by
 induction l with
 |nil=>intro A;rfl
 |cons o l ih=>intro A;exact(ih (A.step o)).trans (A.aoO o)
theorem AT.mP {i:Nat}(hi:i<ops.length)(hl:ops[i].kb.length≤4096)(hn:∀j,i<j→∀o,ops[j]?=some o→o.kb≠ops[i].kb):(A.run ops).Bz ops[i].kb=if ops[i].gone then none else some (ops[i].kb,(evn ops[i].n,ops[i].a,ops[i].b)):=by
 have e:ops=ops.take i++(ops[i]::ops.drop (i+1)):=by rw [←d8 hi,eZ]
 have e2:A.run ops=(((A.run (ops.take i)).step ops[i]).run (ops.drop (i+1))):=by
  conv=>lhs;rw [e,AT.R2]
  rfl
 rw [e2,AT.amj,AT.aoQ _ hl]
 intro o ho
 obtain⟨j,hj⟩:=bT.1 ho
 rw [fi]at hj
 exact hn (i+1+j) (by omega) o hj
theorem apI(n:Int):ot .i64 n 1=0∨ot .i64 n 1=1:=by
 unfold ot
 have e:(BitVec.ofInt (IntKind.bits .i64) n &&& BitVec.ofInt (IntKind.bits .i64) 1).toNat=(BitVec.ofInt (IntKind.bits .i64) n).toNat%2:=by
  rw [BitVec.toNat_and]
  exact Nat.and_one_is_mod _
 rw [e]
 rcases Nat.mod_two_eq_zero_or_one (BitVec.ofInt (IntKind.bits .i64) n).toNat with h|h
 ·rw [h];exact .inl (bU (by omega) (by omega))
 ·rw [h];exact .inr (bU (by omega) (by omega))
theorem apF(n:Int):(ot .i64 n 1==1)=!evn n:=by
 unfold evn
 rcases apI n with h|h
 ·rw [h];rfl
 ·rw [h];rfl
end
section
variable {h h' h2 g h0 h1 hb h4:Hp} {q q':HQ} {s s' s1:RS} {nd gm:List di} {tb hn pb i M:Nat} {T T':TD} {A:AT} {k key kb:LN} {R:RP} {a c a2 a3:Sl} {o:aP} {ks:List (LN)} {D D':Tr} {ops:List aP} {n0:Int} {sd:Nat}
theorem aN.aqb(x:aN M h q s nd tb hn T A)(hk:k∈A.su):fK k∧k.length≤4096:=by
 obtain⟨y,hy,rfl⟩:=cy.1 (x.y.kp.mem_iff.1 hk)
 obtain⟨n,ok,_⟩:=x.p.c.Uj hy
 exact⟨ok.2.2.b8,ok.2.2.len⟩
theorem tj {p:HK}(hp:p∈A.aO):p.1=fU A.sd p.2∧p.2∈A.su:=by
 obtain⟨k,hk,rfl⟩:=cy.1 ((oU _).mem_iff.1 hp)
 exact⟨rfl,hk⟩
theorem wm(A:AT):(A.aO.map (·.2)).Perm A.su:=by
 have:=(oU (A.su.map fun k=>(fU A.sd k,k))).map (·.2)
 rw [fh]at this
 have e:(fun p:HK=>p.2) ∘ (fun k=>(fU A.sd k,k))=id:=rfl
 rw [e,List.map_id]at this
 exact this
theorem aQ.aue(x:aQ T A):A.aO.Pairwise kV:=by rw [←x.oo];exact x.k.pw
theorem akj {l:List HK}(x:KS h a (l.map (·.2))) (t6:sd<18446744073709551616) (pw:l.Pairwise kV) (hl:∀p∈l,p.1=fU sd p.2∧fK p.2∧p.2.length≤4096) (o0:l.length<4611686018427387904) (hR:∀h',bY N h h'→R (vb true) h') :
  bq PG 34 #[uv sd,.slice a.a a.n a.c] h R:=by
 have xn:=x.n
 rw [bA]at xn
 refine apy (a0:=(sd:Int)) ?_
 unfold atD
 refine D5 (fun m s0 s1 s5 g=>∃i:Nat,1≤i∧m=l.length-i∧s0=(sd:Int)∧a=s1∧s5=(i:Int)∧bY N h g) (l.length-1) ⟨1,bH _,rfl,rfl,rfl,rfl,bY.refl _ _⟩ ?_
 rintro m s0 s1 s5 g0 g ⟨i,hi,rfl,rfl,rfl,rfl,kg⟩
 unfold amT
 refine ca (fun fE=>?_) fun o5=>hR g kg
 have iZ:i<l.length:=by omega
 have asz:i-1<l.length:=by omega
 have lt:kV l[i-1] l[i]:=List.pairwise_iff_getElem.1 pw (i-1) i asz iZ (by omega)
 have m1:=hl _ (nQ asz)
 have m2:=hl _ (nQ iZ)
 have e1:(l.map (·.2))[i-1]?=some l[i-1].2:=by rw [bD,br asz];rfl
 have e2:(l.map (·.2))[i]?=some l[i].2:=by rw [bD,br iZ];rfl
 generalize l[i-1]=u at *
 generalize l[i]=w at *
 have xg:=x.cI kg
 have w1:wrap .i64 ((i:Int)-1)=((i-1:Nat):Int):=by rw [bU (by omega) (by omega)];omega
 have wi:wrap .i64 ((i:Int)+1)=((i+1:Nat):Int):=by rw [bU (by omega) (by omega)];omega
 obtain⟨p,c1,ha,Dp,r1,n1,l1⟩:=xg.TJ (i-1) u.2 e1
 obtain⟨p',c2,AK,xO,r2,n2,l2⟩:=xg.TJ i w.2 e2
 obtain rfl:p=p':=bt (ha.symm.trans AK)
 rw [w1]
 have next:∀g',bY N h g'→yh (fun m s0 s1 s5 g=>∃i:Nat,1≤i∧m=l.length-i∧s0=(sd:Int)∧a=s1∧s5=(i:Int)∧bY N h g) (l.length-i) (sd:Int) a (i:Int) false g' R:=fun g' k'=>by
  unfold yh
  exact cj rfl ⟨l.length-(i+1),by omega,i+1,by omega,rfl,rfl,rfl,wi,k'⟩
 refine⟨⟨by omega,by omega⟩,cW ha ⟨c1,by rw [bu,cQ];exact Dp,⟨by omega,fE⟩,cW ha ⟨c2,by rw [bu,cQ];exact xO,?_⟩⟩⟩
 refine Ut r1 n1 m1.2.1 (by omega) t6 fun g1 k1=>⟨_,rfl,⟨c2,by rw [bu,cQ];exact qP k1 xO,rfl⟩,?_⟩
 refine Ut (fC k1 r2) n2 m2.2.1 (by omega) t6 fun g2 k2=>⟨_,rfl,?_⟩
 have k12:=k1.trans k2
 have Fe:=qZ.1 lt
 rw [m1.1,m2.1]at Fe
 refine cj (decide_eq_false (by omega)) ?_
 by_cases e:fU sd u.2=fU sd w.2
 ·refine cr (by rw [e];exact beq_self_eq_true _) ⟨⟨by omega,by omega⟩,cW ha ⟨c1,by rw [bu,cQ];exact qP k12 Dp,⟨by omega,fE⟩,cW ha ⟨c2,by rw [bu,cQ];exact qP k12 xO,_,agb (fC k12 r1) n1 l1 (fC k12 r2) n2 ⟨rfl,rfl⟩,?_⟩⟩⟩
  rw [decide_eq_false (by rcases Fe with h|h<;>omega)]
  exact next g2 (kg.trans k12)
 ·exact cj (by rw [beq_eq_false_iff_ne];intro z;exact e (by omega)) (next g2 (kg.trans k12))
def Tr.none:Tr:=⟨fun _=>⟨Option.none,0,0⟩,fun _=>Option.none,fun _=>[]⟩
theorem Good.new(x:aN M h q s nd tb 1 T A)(k:bY N h0 h)(f:aX h0 q)(ht:tb<h.size)(hz:BF<h0.size)(r:eM h' h.size [.slice none 0 0,.slice none 0 0,.slice none 0 0])(k':bY N h h'):Good M h0 h h' q s nd tb T A h.size Tr.none :=
 ⟨x.cI k',⟨r,bH _,x.p.g.st.fr (bH _),k'.1,fun j _=>GL.nil 1 h h',nofun,nofun,nofun,nofun⟩,k.trans k',f,k.1,ht,hz⟩
theorem tm.len(x:tm A o D D'){j:Nat}(hj:j<3):(D'.p j).length≤(D.p j).length+1:=by
 cases hg:o.gone with
 |true =>
  rw [x.g hg j hj]
  have:(cut o.kb (D.p j)).length≤(D.p j).length:=dT _ _
  omega
 |false =>
  by_cases e:j=0
  ·subst e
   rw [x.n hg]
   split
   ·rw [bG];exact bH _
   ·omega
  ·rw [x.otq hg j e];omega
theorem arn(x:aN M h q s nd tb hn T A){n:Nat}(Tc:A.m.length≤n)(hR:∀a g,KS g a (A.aO.map (·.2))→bY N h g→R (vt #[uv 0,.slice a.a a.n a.c]) g):bq PG 30 #[vp (sa tb),uv 0,vi (n:Int)] h R:=by
 have zb:A.aO.length=A.m.length:=by have:=(wm A).length_eq;unfold AT.su at this;rw [bA,bA]at this;exact this
 have es:jZ (mR (n:Int)) (aS A.aO 0) 0 []=(0,A.aO.map (·.2)):=by
  have e0:aS A.aO 0=A.aO:=nY.2 fun p _=>decide_eq_true (cP _)
  rw [e0,BR _ _ _ (by have:=HF n;show 0+_≤_;omega)]
  rfl
 refine amb x (f:=0) (by omega) (n:Int) fun a g ks kk=>?_
 rw [es]at ks ⊢
 exact hR a g ks kk
theorem amp (tz:eM h BF (Nt.map fun n=>.int .u8 (n:Nat))) (t6:sd<18446744073709551616) (st:aT h a2 ops) (hR:∀h',bY N h h'→R (vb true) h') :
  bq PG 7 #[.agg #[uv sd,vi n0,.slice a2.a a2.n a2.c,.slice a3.a a3.n a3.c]] h R:=by
 refine asV (pF:=(sd:Int)) ?_
 unfold f7F
 refine dh fun h1 e1=>?_
 have k1:bY N h h1:=e1▸cF _ _ _
 have r1:eM h1 h.size [uv sd,vi n0,.slice a2.a a2.n a2.c,.slice a3.a a3.n a3.c]:=e1▸du h #[uv sd,vi n0,.slice a2.a a2.n a2.c,.slice a3.a a3.n a3.c] 30
 clear e1
 rw [show nb h=ad h.size from rfl]
 have tz1:=bF k1 tz _root_.id
 have hz1:=eE tz1
 have st1:=st.cI k1
 have sn:=st.n
 refine alZ tz1 fun h2 k2=>⟨_,rfl,cj rfl ?_⟩
 have r2:=bF k2 r1 _root_.id
 refine⟨_,(bS r2 0).trans rfl,?_⟩
 refine tv (M:=301) (iN:=1000000) (bF k2 tz1 _root_.id) (by omega) (by omega) t6 fun h3 q s nd tb T x3 k3 fr3 _ tbl=>⟨_,_,rfl,?_⟩
 have r3:=bF k3 r2 _root_.id
 refine cj rfl ⟨a2,ia r3 rfl,?_⟩
 unfold asU
 refine ca (fun fE=>hR h3 (k1.trans (k2.trans k3))) fun o5=>dh fun h4 e4=>?_
 have o0:ops.length≤300:=by omega
 have k4:bY N h3 h4:=e4▸cF _ _ _
 have r4:eM h4 h3.size [.slice none 0 0,.slice none 0 0,.slice none 0 0]:=e4▸du h3 #[.slice none 0 0,.slice none 0 0,.slice none 0 0] 54
 clear e4
 have G4:=Good.new x3 (k2.trans k3) (fr3.arF k2.1) tbl hz1 r4 k4
 rw [show nb h3=ad h3.size from rfl]
 have g40:∀j,j<3→((Tr.none).p j).length≤0:=fun _ _=>bH _
 generalize hpb:h3.size=pb at *
 refine alq (fun m s1 s3 s4 s5 s6 g=>∃(i:Nat) (q:HQ) (s:RS) (nd:List di) (T:TD) (D:Tr),
  s1=ad h.size∧s3=some (ad tb)∧s4=some (ad q.hb)∧s5=ad pb∧s6=(i:Int)∧m+i=ops.length∧(D.ks 0).Perm ((AT.new sd).run (ops.take i)).su∧(∀j,j<3→(D.p j).length≤i)∧Good 301 h1 h3 g q s nd tb T ((AT.new sd).run (ops.take i)) pb D) ops.length ⟨0,q,s,nd,T,Tr.none,rfl,rfl,rfl,rfl,rfl,rfl,fT _,g40,G4⟩ ?_
 clear G4 x3 fr3 k4 k3 r3 r2 tbl o5 g40 r4 k2
 rintro n1 s1 s3 s4 s5 s6-g ⟨i,q,s,nd,T,D,rfl,rfl,rfl,rfl,rfl,hm,hks,hDl,G⟩
 unfold asS
 have rg:=bF G.k r1 _root_.id
 have sg:=st1.cI G.k
 have til:(ops.take i).length≤i:=by rw [dm];omega
 have hAl:=AT.ao8 (ops.take i) (AT.new sd)
 have hAn:(AT.new sd).m.length=0:=rfl
 refine⟨a2,ia rg rfl,ca (fun fE=>?_) fun o5=>?_⟩
 ·have hi:i<ops.length:=by omega
  obtain⟨p,hp,xH,_⟩:=sg.iL i ops[i] (br hi)
  obtain⟨_,_,_,cS⟩:=st1.iL i ops[i] (br hi)
  have et:(AT.new sd).run (ops.take (i+1))=((AT.new sd).run (ops.take i)).step ops[i]:=by
   rw [jP,br hi,AT.R2];rfl
  generalize (AT.new sd).run (ops.take i)=A at *
  generalize ops[i]=o at *
  have c0:cell g (p.add (i*5))=some (vb o.gone):=by
   have:=xH 0 _ rfl;rw [qJ,iF]at this;exact this
  refine⟨a2,ia rg rfl,⟨by omega,fE⟩,cW hp ?_⟩
  rw [bu]
  refine⟨_,c0,o.key,xH 1 _ rfl,_,xH 2 _ rfl,_,xH 3 _ rfl,_,xH 4 _ rfl,?_⟩
  refine Y4 G cS hks (by omega) (fun j hj=>by have:=hDl j hj;omega) fun g2 q' s' gm T' D' G2 eh sDq=>⟨_,rfl,cj rfl ?_⟩
  have wi:wrap .i64 ((i:Int)+1)=((i+1:Nat):Int):=by rw [bU (by omega) (by omega)];omega
  refine⟨n1-1,by omega,i+1,q',s',gm,T',D',rfl,rfl,by rw [eh],rfl,wi,by omega,?_,fun j hj=>by have:=sDq.len hj;have:=hDl j hj;omega,?_⟩
  ·rw [et];exact sDq.su G.x.y.CV hks
  ·rw [et];exact G2
 ·obtain rfl:i=ops.length:=by omega
  rw [dE]at *
  have esd:((AT.new sd).run ops).sd=sd:=AT.aru ops _
  have mP:∀i (hi:i<ops.length),ops[i].kb.length≤4096→(∀j,i<j→∀o,ops[j]?=some o→o.kb≠ops[i].kb)→((AT.new sd).run ops).Bz ops[i].kb=if ops[i].gone then none else some (ops[i].kb,(evn ops[i].n,ops[i].a,ops[i].b)):=fun i hi hl hn=>AT.mP hi hl hn
  have atd:∀k,(∀o∈ops,o.kb≠k)→((AT.new sd).run ops).Bz k=none:=fun k hk=>AT.amj ops _ hk
  generalize (AT.new sd).run ops=A at *
  have aup:A.m.length≤300:=by omega
  have zb:A.aO.length=A.m.length:=by have:=(wm A).length_eq;unfold AT.su at this;rw [bA,bA]at this;exact this
  have wz:wrap .i64 ((a2.n:Int)+1)=((ops.length+1:Nat):Int):=by rw [bU (by omega) (by omega)];omega
  refine⟨a2,ia rg rfl,?_⟩
  rw [wz]
  refine arn G.x (n:=ops.length+1) (by omega) fun l1 g1 DE k1'=>⟨_,l1,rfl,?_⟩
  have G1:=G.cI k1'
  refine PW G1.x fun l2 kx g2 ks2 pe2 pw2 _ k2'=>⟨l2,rfl,?_⟩
  have G2:=G1.cI k2'
  refine as7 G2.x (-1) fun l3 g3 ks3 k3'=>⟨l3,rfl,cj rfl ?_⟩
  have G3:=G2.cI k3'
  have es3:wI (-1) (A.aO.map (·.2))=A.aO.map (·.2):=if_pos (by omega)
  rw [es3]at ks3
  have DE:=(DE.cI k2').cI k3'
  have ks2:=ks2.cI k3'
  have rg3:=bF G3.k r1 _root_.id
  refine⟨_,(bS rg3 0).trans rfl,?_⟩
  refine akj DE t6 G.x.y.aue (fun p hp=>by
   have h1:=tj hp
   rw [esd]at h1
   exact⟨h1.1,G.x.aqb h1.2⟩) (by omega) fun g4 k4'=>⟨_,rfl,cj rfl ?_⟩
  have G4:=G3.cI k4'
  have DE:=DE.cI k4'
  have ks2:=ks2.cI k4'
  refine JR (ks3.cI k4') DE (by rw [bA];omega) ⟨_,rfl,cj (by rw [decide_eq_true rfl];rfl) ?_⟩
  refine atb G4.x ⟨_,rfl,cj (by rw [DE.n,bA,zb];exact bne_self_eq_false _) ?_⟩
  have dn:(D.a 0).n=A.m.length:=by
   have h1:=(G4.m.kl (j:=0) (by omega)).n
   rw [h1,hks.length_eq];unfold AT.su;rw [bA]
  refine⟨D.a 0,(bS G4.m.row 0).trans rfl,cj (by rw [DE.n,bA,zb,dn];exact bne_self_eq_false _) ⟨D.a 0,(bS G4.m.row 0).trans rfl,?_⟩⟩
  have dlq:(D.ks 0).length=A.m.length:=by rw [hks.length_eq];unfold AT.su;rw [bA]
  refine Z0 1000 (by omega) (by omega) (G4.m.kl (j:=0) (by omega)) fun l5 g5 ks5 kk5 pe5 pw5 k5'=>⟨l5,rfl,?_⟩
  have G5q:=G4.cI k5'
  obtain rfl:kx=ks5:=I3 (pe2.trans (hks.symm.trans pe5.symm)) (pe2.nodup_iff.2 G.x.y.CV) pw2 pw5
  have ks2:=ks2.cI k5'
  have DE:=DE.cI k5'
  have kxl:kx.length=A.m.length:=by rw [pe2.length_eq];unfold AT.su;rw [bA]
  refine JR ks2 kk5 (by omega) ⟨_,rfl,?_⟩
  rw [decide_eq_true rfl]
  unfold DW
  refine cj rfl ?_
  clear ks3 es3 G1 G2 G3 k1' k2' k3' k4' rg3 wz G4 G rg sg hm o5 hDl kk5 pe5 pw5
  refine alj (fun m s1 s3 s4 s5 s8 s9 pc g=>∃i:Nat,s1=ad h.size∧s3=some (ad tb)∧s4=some (ad q.hb)∧s5=ad pb∧s8=l1∧s9=l2∧pc=(i:Int)∧m+i=A.m.length∧g=g5) A.m.length ⟨0,rfl,rfl,rfl,rfl,rfl,rfl,rfl,rfl,rfl⟩ ?_
  rintro n2 s1 s3 s4 s5 s8 s9 pc-g ⟨i,rfl,rfl,rfl,rfl,rfl,rfl,rfl,hm,rfl⟩
  unfold asQ
  have l1n:s8.n=A.m.length:=by rw [DE.n,bA,zb]
  refine ca (fun fE=>?_) fun o5=>?_
  ·have iZ:i<A.aO.length:=by omega
   have e1:(A.aO.map (·.2))[i]?=some A.aO[i].2:=by rw [bD,br iZ];rfl
   have mem:A.aO[i].2∈kx:=pe2.mem_iff.2 (tj (nQ iZ)).2
   generalize A.aO[i].2=k at *
   obtain⟨p,c1,ha,Dp,r1',n1',l1'⟩:=DE.TJ i k e1
   refine⟨⟨by omega,fE⟩,cW ha ⟨c1,by rw [bu,cQ];exact Dp,lp ks2 r1' n1' (by omega) ⟨_,rfl,?_⟩⟩⟩
   have hz:=(u4 k kx 0).2 mem
   refine cj (decide_eq_false (by omega)) ⟨n2-1,by omega,i+1,rfl,rfl,rfl,rfl,rfl,rfl,by rw [bU (by omega) (by omega)];omega,by omega,rfl⟩
  ·
   have rg:=bF G5q.k r1 _root_.id
   refine⟨a2,ia rg rfl,?_⟩
   have w0:wrap .i64 ((a2.n:Int)-1)=(ops.length:Int)-1:=by rw [bU (by omega) (by omega)];omega
   refine aks (fun m s1 s3 s4 s5 rO g=>∃(i:Nat) (D:Tr),s1=ad h.size∧s3=some (ad tb)∧s4=some (ad q.hb)∧s5=ad pb∧rO=(i:Int)-1∧m=i∧i≤ops.length∧(D.ks 0).length≤300∧(∀k,k∈D.ks 0↔k∈A.su∧∀j,i≤j→∀o,ops[j]?=some o→o.kb≠k)∧Good 301 h1 h3 g q s nd tb T A pb D) ops.length ⟨ops.length,D,rfl,rfl,rfl,rfl,w0,rfl,bH _,by omega,fun k=>⟨fun hk=>⟨hks.mem_iff.1 hk,fun j hj o ho=>by have:=(bp.1 ho).1;omega⟩,fun hk=>hks.mem_iff.2 hk.1⟩,G5q⟩ ?_
   clear G5q rg dn dlq hks DE ks2
   rintro n3 s1 s3 s4 s5 rO-g ⟨i,D,rfl,rfl,rfl,rfl,rfl,rfl,iZ,Uf,hDq,G⟩
   unfold asP
   have rg:=bF G.k r1 _root_.id
   have sg:=st1.cI G.k
   refine ca (fun fE=>?_) fun o5=>?_
   ·obtain⟨i,rfl⟩:∃i',n3=i'+1:=⟨n3-1,by omega⟩
    have ei:((i+1:Nat):Int)-1=(i:Int):=by omega
    rw [ei]
    have hi:i<ops.length:=by omega
    obtain⟨p,hp,xH,_⟩:=sg.iL i ops[i] (br hi)
    obtain⟨_,_,_,cS⟩:=st1.iL i ops[i] (br hi)
    have eo:ops[i]?=some ops[i]:=br hi
    have la:=mP i hi
    generalize ops[i]=o at *
    refine⟨a2,ia rg rfl,⟨by omega,by omega⟩,cW hp (il xH fun g1 rl kl=>?_)⟩
    have fo1:q.bR g.size=.out:=G.x.p.g.st.fr (bH _)
    have aut:pb<g.size:=eE G.m.row
    have G1:=G.cI kl
    have ky:=G1.kA cS
    rw [show nb g=ad g.size from rfl]
    have wi:wrap .i64 ((i:Int)-1)=(i:Int)-1:=by rw [bU (by omega) (by omega)]
    refine⟨D.a 0,(bS G1.m.row 0).trans rfl,o.key,ia rl rfl,_,lp (G1.m.kl (by omega)) ky.src.rd ky.src.n (by omega) ⟨rfl,rfl⟩,?_⟩
    have hz:=u4 o.kb (D.ks 0) 0
    refine ca (fun aAe=>?_) fun wW=>?_
    ·have aAe:amZ (D.ks 0) o.kb 0<0:=aAe
     have nin:o.kb∉D.ks 0:=fun hm=>by have:=hz.2 hm;omega
     refine⟨i,by omega,i,D,rfl,rfl,rfl,rfl,wi,rfl,by omega,Uf,fun k=>⟨fun hk=>⟨((hDq k).1 hk).1,fun j hj o' ij=>?_⟩,fun hk=>(hDq k).2 ⟨hk.1,fun j hj=>hk.2 j (by omega)⟩⟩,G1⟩
     by_cases e:j=i
     ·subst e
      obtain rfl:=bt (eo.symm.trans ij)
      exact fun e2=>nin (e2▸hk)
     ·exact((hDq k).1 hk).2 j (by omega) o' ij
    ·have wW:¬amZ (D.ks 0) o.kb 0<0:=wW
     have GX:o.kb∈D.ks 0:=hz.1 (by omega)
     obtain⟨atj,aso⟩:=(hDq _).1 GX
     have kok:=G.x.aqb atj
     have la:=la kok.2 fun j hj=>aso j (by omega)
     have asI:=(A.bj _).2 atj
     refine⟨D.a 0,(bS G1.m.row 0).trans rfl,o.key,ia rl rfl,?_⟩
     refine G1.cut (i:=0) (by omega) ky.src.rd ky.src.n (by unfold Tr.ks at Uf;rw [bA]at Uf;omega) (ays:=ad pb) rfl fun g2 a5 b5 G2 j5=>?_
     have r5:=j5 _ _ rl (by omega)
     have ky2:=G2.kA cS
     refine⟨o.key,ia r5 rfl,?_⟩
     refine ame G2.x ky2.src ky2.len (fun wX=>?_) fun w v g3 xK k3' vo=>⟨_,_,_,_,rfl,cj rfl ?_⟩
     ·unfold AT.cX at asI;rw [wX]at asI;cases asI
     ·rw [xK]at la
      have hg:o.gone=false:=by
       cases hg:o.gone with
       |false=>rfl
       |true=>rw [hg,if_pos rfl]at la;cases la
      rw [hg,if_neg (by simp)]at la
      obtain rfl:w=(evn o.n,o.a,o.b):=congrArg Prod.snd (bt la)
      have r6:=bF k3' r5 _root_.id
      have G3:=G2.cI k3'
      have J3:∃(i_1:Nat) (D:Tr),ad h.size=ad h.size∧some (ad tb)=some (ad tb)∧some (ad q.hb)=some (ad q.hb)∧ad pb=ad pb∧wrap .i64 ((i:Int)-1)=(i_1:Int)-1∧i=i_1∧i_1≤ops.length∧(D.ks 0).length≤300∧(∀k,k∈D.ks 0↔k∈A.su∧∀j,i_1≤j→∀o,ops[j]?=some o→o.kb≠k)∧Good 301 h1 h3 g3 q s nd tb T A pb D:=by
       refine⟨i,_,rfl,rfl,rfl,rfl,wi,rfl,by omega,?_,fun k=>?_,G3⟩
       ·have e1:(D.set 0 a5 b5 (cut o.kb (D.p 0))).ks 0=(D.ks 0).filter fun y=>decide (y≠o.kb):=HC _ _
        rw [e1]
        exact bP (dT _ _) Uf
       ·have e1:(D.set 0 a5 b5 (cut o.kb (D.p 0))).ks 0=(D.ks 0).filter fun y=>decide (y≠o.kb):=HC _ _
        rw [e1,dU,decide_eq_true_eq,hDq]
        refine⟨fun hk=>⟨hk.1.1,fun j hj o' ij=>?_⟩,fun hk=>⟨⟨hk.1,fun j hj=>hk.2 j (by omega)⟩,fun e=>hk.2 i (bH _) o eo e.symm⟩⟩
        by_cases e:j=i
        ·subst e
         obtain rfl:=bt (eo.symm.trans ij)
         exact Ne.symm hk.2
        ·exact hk.1.2 j (by omega) o' ij
      refine⟨_,ia r6 rfl,cj (bne_self_eq_false _) ⟨_,ia r6 rfl,cj (bne_self_eq_false _) ⟨_,ia r6 rfl,?_⟩⟩⟩
      have vz:=vo.zero G2.x.p.g
      refine cj (by rw [vz,apF];cases evn o.n<;>rfl) ?_
      cases he:evn o.n with
      |false =>
       rw [he]at vz
       exact cj (by rw [bne,vz];rfl) ⟨i,by omega,J3⟩
      |true =>
       rw [he]at vz vo
       refine cr (by rw [bne,vz];rfl) ⟨_,ia r6 rfl,?_⟩
       exact vn G3.x.p.g vo ⟨_,rfl,⟨_,ia r6 rfl,rfl⟩,cj (bne_self_eq_false _) ⟨i,by omega,J3⟩⟩
   ·obtain rfl:n3=0:=by omega
    have e0:D.ks 0=[]:=List.eq_nil_iff_forall_not_mem.2 fun k hk=>by
     obtain⟨h1,h2⟩:=(hDq k).1 hk
     have:=atd k fun o ho=>by
      obtain⟨j,hj⟩:=bT.1 ho
      exact h2 j (cP _) o hj
     have h3:=(A.bj k).2 h1
     unfold AT.cX at h3
     rw [this]at h3;cases h3
    have n0:(D.a 0).n=0:=by rw [(G.m.kl (j:=0) (by omega)).n,e0];rfl
    refine⟨D.a 0,(bS G.m.row 0).trans rfl,?_⟩
    rw [n0]
    exact hR g (k1.trans G.k)
end
theorem aot {n:Nat}:∀(l:List HK) (mP:Nat) (vG:List (LN)),l.Pairwise (fun x y=>x.1≤y.1)→(∀x∈l,mP≤x.1) →
  jZ n l mP vG=(0,vG++l.map (·.2))∨∃l1 hk l2,l=l1++hk::l2∧jZ n l mP vG=(hk.1,vG++l1.map (·.2))∧n≤vG.length+l1.length∧(∀x∈l1,x.1<hk.1)∧mP<hk.1
 | [],mP,vG,_,_=>.inl (by simp [jZ])
 | (h,k)::t,mP,vG,pw,hl=>by
  have h0:=hl _ (bQ ..)
  have h0:mP≤h:=h0
  rw [oK]at pw
  unfold jZ
  by_cases c:n≤vG.length∧h≠mP
  ·rw [if_pos c]
   exact .inr ⟨[],(h,k),t,rfl,by simp,by simpa using c.1,nofun,by have:=c.2;show mP<h;omega⟩
  ·rw [if_neg c]
   rcases aot t h (vG++[k]) pw.2 fun x hx=>pw.1 x hx with e|⟨l1,hk,l2,e1,e2,e3,e4,e5⟩
   ·exact .inl (by rw [e];simp)
   ·refine .inr ⟨(h,k)::l1,hk,l2,by rw [e1];rfl,by rw [e2];simp,?_,fun x hx=>?_,by omega⟩
    ·rw [bG]at e3;simp at e3 ⊢;omega
    ·rcases ck.1 hx with rfl|hx
     ·exact e5
     ·exact e4 x hx
section
variable {h h' h2 g h0 h1 hb:Hp} {q:HQ} {s s1:RS} {nd:List di} {tb pb i M cuq n:Nat} {T:TD} {A:AT} {k key kb:LN} {R:RP} {a c a':Sl} {ob jK:Option Nat} {o:aP} {ks:List (LN)} {ps ZF:List KB} {D D':Tr} {sd:Nat}
def AT.ahead(A:AT)(c:Nat):Nat:=(A.su.filter fun k=>decide (c≤fU A.sd k)).length
theorem aoL(A:AT)(c:Nat):(aS A.aO c).length=A.ahead c:=by
 unfold aS AT.ahead
 have p:=(oU (A.su.map fun k=>(fU A.sd k,k))).filter fun x=>decide (c≤x.1)
 have e:=p.length_eq
 unfold AT.aO
 rw [e,List.filter_map,bA]
 rfl
theorem AT.ao5(A:AT)(o:aP)(c:Nat):(A.step o).ahead c≤A.ahead c+1:=by
 have avo:∀k,((A.su.filter fun y=>decide (y≠k)).filter fun k=>decide (c≤fU A.sd k)).length≤A.ahead c:=fun k=>by
  unfold AT.ahead
  exact((kj).filter _).length_le
 unfold AT.ahead
 rw [A.aoO]
 unfold AT.step AT.lay
 split
 ·have e2:(A.u5 o.kb).su=A.su.filter fun y=>decide (y≠o.kb):=by
   rw [←A.ta]
   unfold AT.u5
   split<;>rfl
  rw [e2]
  have:=avo o.kb
  unfold AT.ahead at this
  omega
 ·split
  ·have e2:(A.put o.kb (evn o.n,o.a,o.b)).su=o.kb::A.su.filter fun y=>decide (y≠o.kb):=by
    rw [←A.ta]
    unfold AT.put
    split<;>rfl
   rw [e2]
   have:=avo o.kb
   unfold AT.ahead at this
   by_cases hc:c≤fU A.sd o.kb
   ·rw [fI (by simpa using hc),dF];omega
   ·rw [gu (by simpa using hc)];omega
  ·omega
structure avq (A:AT) (cuq:Nat) (nx:Nat) (l:List (LN)):Prop where
 mem:∀k∈l,k∈A.su∧cuq≤fU A.sd k∧(nx≠0→fU A.sd k<nx)
 CV:l.Nodup
 all:∀k∈A.su,cuq≤fU A.sd k→(nx=0∨fU A.sd k<nx)→k∈l
 up:nx≠0→cuq<nx∧l≠[]∧A.ahead nx+1≤A.ahead cuq
 lt:nx<18446744073709551616
theorem ao7(x:aQ T A)(z:Int):avq A cuq (jZ (mR z) (aS A.aO cuq) 0 []).1 (jZ (mR z) (aS A.aO cuq) 0 []).2:=by
 have pw:=x.aue
 have pwc:(aS A.aO cuq).Pairwise kV:=pw.sublist kj
 have pw1:(aS A.aO cuq).Pairwise fun x y=>x.1≤y.1:=pwc.imp fun {a b} h=>by
  rcases qZ.1 h with h|h<;>omega
 have Q5:1≤mR z:=by unfold mR;split<;>omega
 have apK:∀p∈aS A.aO cuq,p.1=fU A.sd p.2∧p.2∈A.su∧cuq≤p.1:=fun p hp=>by
  obtain⟨h1,h2⟩:=dU.1 hp
  exact⟨(tj h1).1,(tj h1).2,of_decide_eq_true h2⟩
 have ajf:∀k∈A.su,cuq≤fU A.sd k→(fU A.sd k,k)∈aS A.aO cuq:=fun k hk hc=>dU.2 ⟨(oU _).mem_iff.2 (cy.2 ⟨k,hk,rfl⟩),decide_eq_true hc⟩
 have avj:((aS A.aO cuq).map (·.2)).Nodup:=by
  have h1:(A.aO.map (·.2)).Nodup:=(wm A).nodup_iff.2 x.CV
  exact h1.sublist (kj.map _)
 rcases aot (n:=mR z) (aS A.aO cuq) 0 [] pw1 (fun _ _=>cP _)with e|⟨l1,hk,l2,e1,e2,e3,e4,e5⟩
 ·rw [e]
  refine⟨fun k hk=>?_,avj,fun k hk hc _=>?_,fun h=>absurd rfl h,by show 0<_;omega⟩
  ·obtain⟨p,hp,rfl⟩:=cy.1 hk
   have:=apK p hp
   exact⟨this.2.1,by rw [←this.1];exact this.2.2,fun h=>absurd rfl h⟩
  ·exact cy.2 ⟨_,ajf k hk hc,rfl⟩
 ·rw [e2]
  have hl1:l1.length≠0:=by have h3:mR z≤0+l1.length:=e3;omega
  have avi:∀p∈l1,p∈aS A.aO cuq:=fun p hp=>by rw [e1];exact bW _ hp
  have hkm:hk∈aS A.aO cuq:=by rw [e1];exact bK _ (bQ ..)
  have pwa:=pw1
  rw [e1,List.pairwise_append]at pwa
  have pw2:=(oK.1 pwa.2.1).1
  refine⟨fun k hk'=>?_,?_,fun k hk' hc fE=>?_,fun _=>⟨?_,?_,?_⟩,?_⟩
  ·obtain⟨p,hp,rfl⟩:=cy.1 hk'
   have:=apK p (avi p hp)
   exact⟨this.2.1,by rw [←this.1];exact this.2.2,fun _=>by rw [←this.1];exact e4 p hp⟩
  ·have h1:=avj
   rw [e1,cx,cu]at h1
   exact h1.1
  ·have h1:=ajf k hk' hc
   rw [e1]at h1
   rcases bI.1 h1 with h1|h1
   ·exact cy.2 ⟨_,h1,rfl⟩
   ·exfalso
    have fE:fU A.sd k<hk.1:=fE.resolve_left (by show ¬hk.1=0;omega)
    rcases ck.1 h1 with e|h1
    ·rw [←e]at fE;exact Nat.lt_irrefl _ fE
    ·have:=pw2 _ h1
     have this:hk.1≤fU A.sd k:=this
     omega
  ·match l1,hl1 with
   |p::l1,_ =>
    have h1:=apK p (avi p (bQ ..))
    have h2:=e4 p (bQ ..)
    show cuq<hk.1
    omega
  ·intro h
   have h:l1.map (·.2)=[]:=by simpa using h
   exact hl1 (by rw [nX.1 h];rfl)
  ·rw [←aoL,←aoL]
   have hcu:cuq≤hk.1:=(apK hk hkm).2.2
   have e6:aS A.aO hk.1=(aS A.aO cuq).filter fun x=>decide (hk.1≤x.1):=by
    unfold aS
    rw [tu]
    refine List.filter_congr fun p _=>?_
    by_cases h:hk.1≤p.1
    ·rw [decide_eq_true h,decide_eq_true (by omega:cuq≤p.1)];rfl
    ·rw [decide_eq_false h];rfl
   show (aS A.aO hk.1).length+1≤_
   rw [e6,e1,gG,bG,bG]
   have z1:l1.filter (fun x=>decide (hk.1≤x.1))=[]:=je.2 fun p hp=>by
    have:=e4 p hp
    simp only [decide_eq_true_eq];omega
   have z2:((hk::l2).filter fun x=>decide (hk.1≤x.1)).length≤(hk::l2).length:=dT _ _
   rw [z1]
   show 0+_+1≤_
   omega
  ·show hk.1<_
   rw [(apK hk hkm).1]
   exact Bi _ _
structure PS (hb g:Hp) (q:HQ) (pb:Nat) (D:Tr) (a:Sl) (ob:Option Nat) (ps:List KB):Prop where
 gl:GL 1 hb g a ob (ps.map fun p=>n8 p.1)
 no:∀b,ob=some b→b≠pb∧¬D.fp b
 kd:∀p∈ps,aW g q pb D p
theorem PS.cI(x:PS hb h q pb D a ob ps)(k:bY N h h'):PS hb h' q pb D a ob ps :=
 ⟨x.gl.cI k,x.no,fun p hp=>⟨(x.kd p hp).src.amG k fun _ _ _ e=>e,(x.kd p hp).len,(x.kd p hp).no⟩⟩
theorem aqx(x:Good M h0 hb h q s nd tb T A pb D)(y:PS hb h q pb D a ob ps)(h1:∀p∈ps,p.2∈D.ks 0)(h2:∀p∈ps,p.2∉D.ks 2)(CV:(ps.map (·.2)).Nodup) (l0:(D.p 0).length≤1000000) (l2:(D.p 2).length+ps.length≤1000000)
  (hR:∀h' D',Good M h0 hb h' q s nd tb T A pb D'→D'.p 0=D.p 0→D'.p 1=D.p 1→D'.p 2=D.p 2++ps→R (vb true) h') :
  bq PG 31 #[vp (sa pb),.slice a.a a.n a.c] h R:=by
 have xn:a.n=ps.length:=by have:=y.gl.len;rw [bA]at this;omega
 refine are ?_
 unfold avm
 refine ao4 (fun m s0 s1 s5 g=>∃(i:Nat) (D':Tr),s0=some (ad pb)∧a=s1∧s5=(i:Int)∧m+i=ps.length∧Good M h0 hb g q s nd tb T A pb D'∧PS hb g q pb D' a ob ps∧D'.p 0=D.p 0∧D'.p 1=D.p 1∧D'.p 2=D.p 2++ps.take i) ps.length ⟨0,D,rfl,rfl,rfl,rfl,x,y,rfl,rfl,by simp⟩ ?_
 rintro m s0 s1 s5-g ⟨i,D',rfl,rfl,rfl,hm,G,Y,d0,d1,d2⟩
 unfold ap5
 refine ca (fun fE=>?_) fun o5=>?_
 ·have iZ:i<ps.length:=by omega
  have e1:ps[i]?=some ps[i]:=br iZ
  have et:ps.take (i+1)=ps.take i++[ps[i]]:=by rw [jP,e1];rfl
  have nin:ps[i].2∉(ps.take i).map (·.2):=fun hm=>by
   obtain⟨p,hp,e⟩:=cy.1 hm
   obtain⟨j,hj,e2⟩:=List.mem_take_iff_getElem.1 hp
   have hj1:j<i:=by omega
   have hj2:j<ps.length:=by omega
   have hpj:ps[j]=p:=e2
   have h3:(ps.map (·.2))[j]?=(ps.map (·.2))[i]?:=by
    rw [bD,bD,br hj2,e1,hpj]
    show some p.2=some ps[i].2
    rw [e]
   have:=(jV (by rw [bA];exact hj2) CV).1 h3
   omega
  generalize hp:ps[i]=p at *
  have hpm:p∈ps:=bx e1
  have m0q:=h1 p hpm
  have m2:=h2 p hpm
  obtain⟨b,fV,ha,hc⟩:=Y.gl.at (o:=i) (v:=n8 p.1) (by rw [bD,e1];rfl)
  have kp:=Y.kd p hpm
  have ks0:D'.ks 0=D.ks 0:=by unfold Tr.ks;rw [d0]
  have ks2:D'.ks 2=D.ks 2++(ps.take i).map (·.2):=by unfold Tr.ks;rw [d2,cx]
  have at3:(D'.ks 0).length<4611686018427387904:=by unfold Tr.ks;rw [bA,d0];omega
  have alV:(D'.p 2).length≤1000000:=by rw [d2,bG,dm];omega
  have hz0:=(u4 p.2 (D'.ks 0) 0).2 (by rw [ks0];exact m0q)
  have hz2:¬0≤amZ (D'.ks 2) p.2 0:=fun hz=>by
   have:=(u4 p.2 (D'.ks 2) 0).1 hz
   rw [ks2]at this
   exact(bI.1 this).elim m2 nin
  have cc:cell g ((ad b).add ((i:Int).toNat*1))=some (.slice p.1.a p.1.n p.1.c):=by rw [bu,cQ];exact hc
  refine bw ⟨D'.a 0,(bS G.m.row 0).trans rfl,⟨by omega,fE⟩,cW ha ⟨p.1,cc,_,lp (G.m.kl (by omega)) kp.src.rd kp.src.n at3 ⟨rfl,rfl⟩,?_⟩⟩
  refine cj (decide_eq_false (by show ¬amZ (D'.ks 0) p.2 0<0;omega)) (bw ⟨D'.a 2,by rw [cm];exact(bS G.m.row 2).trans rfl,⟨by omega,fE⟩,cW ha ⟨p.1,cc,_,lp (G.m.kl (j:=2) (by omega)) kp.src.rd kp.src.n (by unfold Tr.ks;rw [bA];omega) ⟨rfl,rfl⟩,?_⟩⟩)
  unfold ap6
  refine cj (decide_eq_false (by show ¬amZ (D'.ks 2) p.2 0≥0;omega)) (bw ⟨D'.a 2,by rw [cm];exact(bS G.m.row 2).trans rfl,⟨by omega,fE⟩,cW ha ⟨p.1,cc,dh fun Dq e10=>?_⟩⟩)
  have k10:bY N g Dq:=e10▸cF _ _ _
  have r10:eM Dq g.size [n8 p.1]:=e10▸du g #[n8 p.1] 39
  clear e10
  have x10:=G.cI k10
  have y10:=Y.cI k10
  have n2:(D'.a 2).n=(D'.p 2).length:=by have:=(x10.m.l 2 (by omega)).len;rw [bA]at this;omega
  refine⟨⟨D'.a 2,by rw [cm];exact(bS x10.m.row 2).trans rfl,rfl⟩,[n8 p.1],lQ r10 (fun j v hj=>by rw [fo];exact hj),rfl,?_⟩
  refine(x10.m.l 2 (by omega)).Av x10.m.hs rfl rfl (fun v hv=>by simp at hv;rcases hv with rfl;rfl) (by omega) (by omega) fun a' c' Aj jK gl kk nw=>?_
  refine bw (x10.store (i:=2) (by omega) (ays:=(ad pb).add 2) (cm _ _) (a':=⟨a',(D'.a 2).n+1,c'⟩) (ZF:=D'.p 2++[p]) (by rw [cx];exact gl) kk nw (fun p' HV=>?_) fun Tl x12 k12=>?_)
  ·rcases bI.1 HV with HV|HV
   ·exact x10.m.kd 2 (by omega) p' HV
   ·rw [bM.1 HV];exact y10.kd p hpm
  ·refine⟨m-1,by omega,i+1,_,rfl,rfl,by rw [bU (by omega) (by omega)];omega,by omega,x12,⟨?_,fun b vW=>?_,fun p' HV=>aW.jR (by omega) kk nw k12 (y10.kd p' HV)⟩,d0,d1,?_⟩
   ·exact(y10.gl.eG kk fun b vW e=>(y10.no b vW).2 ⟨2,by omega,e⟩).eG k12 fun b vW e=>(y10.no b vW).1 e
   ·refine⟨(y10.no b vW).1,?_⟩
    rintro⟨j,hj,e⟩
    by_cases ej:j=2
    ·subst ej
     rw [Tr.rX]at e
     rcases nw _ e with h|h
     ·exact(y10.no b vW).2 ⟨2,by omega,h⟩
     ·have:=y10.gl.lt vW;omega
    ·rw [Tr.bg _ ej]at e
     exact(y10.no b vW).2 ⟨j,hj,e⟩
   ·rw [Tr.ap0,d2,et,ce]
 ·obtain rfl:i=ps.length:=by omega
  rw [dE]at d2
  exact hR g D' G d0 d1 d2
theorem au0(x:Good M h0 hb h q s nd tb T A pb D)(hf:cuq<18446744073709551616)(z:Int)
  (hR:∀a ob ps g,PS hb g q pb D a ob ps→ps.map (·.2)=(jZ (mR z) (aS A.aO cuq) 0 []).2→bY N h g→R (vt #[uv (jZ (mR z) (aS A.aO cuq) 0 []).1,.slice a.a a.n a.c]) g):bq PG 30 #[vp (sa tb),uv cuq,vi z] h R:=by
 have pg:=ao7 (cuq:=cuq) x.x.y z
 rw [←x.x.y.oS]at hR pg
 refine ac3 x.x.p x.x.y.k hf z fun a ob gw g bl e b8 kk=>?_
 have hpb:pb<h.size:=eE x.m.row
 have fpl:∀b,D.fp b→b<h.size:=fun b ⟨j,hj,e⟩=>(x.m.l j hj).lt e
 refine hR a ob (gw.map fun y=>(⟨some (ad y.c),y.key.length,y.key.length⟩,y.key)) g ⟨?_,fun b fV=>?_,fun p hp=>?_⟩ ?_ kk
 ·rw [fh]
  exact⟨bl.gl.sl,fun b fV=>bP x.m.hs (bl.gl.new b fV)⟩
 ·have:=bl.gl.new b fV
  exact⟨by omega,fun h=>by have:=fpl b h;omega⟩
 ·obtain⟨y,hy,rfl⟩:=cy.1 hp
  obtain⟨r1,r2,_⟩:=bl.row y hy
  have hkA:y.key∈A.su:=(pg.mem y.key (by rw [←e];exact cy.2 ⟨y,hy,rfl⟩)).1
  have kok:=x.x.aqb hkA
  refine⟨⟨lq r1,rfl,kok.1,fun pp hpp _=>?_⟩,by have:=kok.2;show y.key.length≤_;omega,fun pp hpp _=>?_⟩
  ·obtain rfl:ad y.c=pp:=bt hpp
   exact⟨x.x.p.g.st.fr r2,eE r1⟩
  ·obtain rfl:ad y.c=pp:=bt hpp
   exact⟨by show y.c≠pb;omega,fun h=>by have h:D.fp y.c:=h;have:=fpl _ h;omega⟩
 ·rw [←e,fh];rfl
end
structure ScS (sd S:Nat) (A:AT) (D:Tr) (c u ajg:Nat):Prop where
 ks:(D.ks 0).Perm A.su
 sdE:A.sd=sd
 len:A.m.length≤S+u
 aqg:∀k∈D.ks 1,k∈A.su∧(fU sd k<c→k∈D.ks 2)
 told:∀k∈D.ks 2,fU sd k<c
 pot:ajg+A.ahead c≤S+u
 l1:(D.p 1).length≤1000
 l2:(D.p 2).length≤401*ajg
section
variable {h2 g h0 h1:Hp} {cuq n S u ajg:Nat} {A:AT} {k kb:LN} {o:aP} {ks:List (LN)} {ps:List KB} {D D':Tr} {sd:Nat}
theorem tm.gone(x:tm A o D D')(hg:o.gone=true){j:Nat}(hj:j<3):D'.ks j=(D.ks j).filter fun y=>decide (y≠o.kb):=by
 unfold Tr.ks
 rw [x.g hg j hj,HC]
theorem tm.AZ(x:tm A o D D')(hg:o.gone=false){j:Nat}(hj:j≠0):D'.ks j=D.ks j:=by
 unfold Tr.ks
 rw [x.otq hg j hj]
theorem tm.adw(x:tm A o D D')(hg:o.gone=false)(hk:k∈D.ks 0):k∈D'.ks 0:=by
 unfold Tr.ks at hk ⊢
 rw [x.n hg]
 split
 ·rw [cx];exact bW _ hk
 ·exact hk
theorem ScS.step(x:ScS sd S A D cuq u ajg)(sDq:tm A o D D')(CV:A.su.Nodup):ScS sd S (A.step o) D' cuq (u+1) ajg:=by
 have kp:=sDq.su CV x.ks
 refine⟨kp,(A.aoO o).trans x.sdE,by have:=A.u7 o;have:=x.len;omega,fun k hk=>?_,fun k hk=>?_,by have:=A.ao5 o cuq;have:=x.pot;omega,?_,?_⟩
 ·cases hg:o.gone with
  |true =>
   rw [sDq.gone hg (by omega),dU]at hk
   obtain⟨h1,h2⟩:=x.aqg k hk.1
   refine⟨kp.mem_iff.1 ?_,fun hc=>?_⟩
   ·rw [sDq.gone hg (by omega),dU]
    exact⟨x.ks.mem_iff.2 h1,hk.2⟩
   ·rw [sDq.gone hg (by omega),dU]
    exact⟨h2 hc,hk.2⟩
  |false =>
   rw [sDq.AZ hg (by omega)]at hk
   obtain⟨h1,h2⟩:=x.aqg k hk
   exact⟨kp.mem_iff.1 (sDq.adw hg (x.ks.mem_iff.2 h1)),fun hc=>by rw [sDq.AZ hg (by omega)];exact h2 hc⟩
 ·cases hg:o.gone with
  |true =>
   rw [sDq.gone hg (by omega),dU]at hk
   exact x.told k hk.1
  |false =>
   rw [sDq.AZ hg (by omega)]at hk
   exact x.told k hk
 ·cases hg:o.gone with
  |true =>
   rw [sDq.g hg 1 (by omega)]
   exact bP (dT _ _) x.l1
  |false=>rw [sDq.otq hg 1 (by omega)];exact x.l1
 ·cases hg:o.gone with
  |true =>
   rw [sDq.g hg 2 (by omega)]
   exact bP (dT _ _) x.l2
  |false=>rw [sDq.otq hg 2 (by omega)];exact x.l2
theorem ScS.avr(x:ScS sd S A D cuq u ajg){nx:Nat}{l:List (LN)} (pg:avq A cuq nx l) (e0:D'.p 0=D.p 0) (e1:D'.p 1=D.p 1) (e2:D'.p 2=D.p 2++ps) (el:ps.map (·.2)=l) (h0:nx≠0) (hl:ps.length≤401):ScS sd S A D' nx u (ajg+1):=by
 have k0:D'.ks 0=D.ks 0:=by unfold Tr.ks;rw [e0]
 have k1:D'.ks 1=D.ks 1:=by unfold Tr.ks;rw [e1]
 have k2:D'.ks 2=D.ks 2++l:=by unfold Tr.ks;rw [e2,cx,el]
 obtain⟨up1,up2,up3⟩:=pg.up h0
 have esd:=x.sdE
 refine⟨k0▸x.ks,x.sdE,x.len,fun k hk=>?_,fun k hk=>?_,by have:=x.pot;omega,by rw [e1];exact x.l1,?_⟩
 ·rw [k1]at hk
  obtain⟨h1,h2⟩:=x.aqg k hk
  refine⟨h1,fun hc=>?_⟩
  rw [k2]
  by_cases fE:fU sd k<cuq
  ·exact bW _ (h2 fE)
  ·exact bK _ (pg.all k h1 (by rw [esd];omega) (.inr (by rw [esd];exact hc)))
 ·rw [k2]at hk
  rcases bI.1 hk with hk|hk
  ·have:=x.told k hk;omega
  ·have:=(pg.mem k hk).2.2 h0
   rw [esd]at this;exact this
 ·rw [e2,bG]
  have:=x.l2
  omega
end
def avp(h h1 h3:Hp)(tb pb sd S W m:Nat)(s1:Addr)(s3 s4:OA)(s5:Addr)(s7 s8 s9:Int)(g:Hp):Prop :=
 ∃(c u ajg:Nat) (q:HQ) (s:RS) (nd:List di) (T:TD) (A:AT) (D:Tr),s1=ad h.size∧s3=some (ad tb)∧s4=some (ad q.hb)∧s5=ad pb∧s7=(c:Int)∧s8=(u:Int)∧s9=(ajg:Int)∧m+ajg=S+W+2∧u≤W∧c<18446744073709551616∧ScS sd S A D c u ajg∧Good 401 h1 h3 g q s nd tb T A pb D
section
variable {h h' h2 g h0 h1 hb h4:Hp} {q q':HQ} {s s' s1:RS} {nd gm:List di} {tb pb i M cuq n u ajg:Nat} {T T':TD} {A:AT} {k key:LN} {R:RP} {a c a' a2 a3:Sl} {jK:Option Nat} {o:aP} {ks:List (LN)} {ps ZF:List KB} {D D':Tr} {ops alN:List aP} {n0:Int} {sd:Nat}
theorem ao2 (tz:eM h BF (Nt.map fun n=>.int .u8 (n:Nat))) (t6:sd<18446744073709551616) (st:aT h a2 ops) (mo:aT h a3 alN) (hR:∀h',bY N h h'→R (vb true) h') :
  bq PG 6 #[.agg #[uv sd,vi n0,.slice a2.a a2.n a2.c,.slice a3.a a3.n a3.c]] h R:=by
 refine avf (pF:=(sd:Int)) ?_
 unfold f6F
 refine dh fun h1 e1=>?_
 have k1:bY N h h1:=e1▸cF _ _ _
 have r1:eM h1 h.size [uv sd,vi n0,.slice a2.a a2.n a2.c,.slice a3.a a3.n a3.c]:=e1▸du h #[uv sd,vi n0,.slice a2.a a2.n a2.c,.slice a3.a a3.n a3.c] 30
 clear e1
 rw [show nb h=ad h.size from rfl]
 have tz1:=bF k1 tz _root_.id
 have hz1:=eE tz1
 have st1:=st.cI k1
 have mo1:=mo.cI k1
 have sn:=st.n
 have mnq:=mo.n
 refine alZ tz1 fun h2 k2=>⟨_,rfl,cj rfl ?_⟩
 have r2:=bF k2 r1 _root_.id
 refine⟨_,(bS r2 0).trans rfl,?_⟩
 refine tv (M:=401) (iN:=1000000) (bF k2 tz1 _root_.id) (by omega) (by omega) t6 fun h3 q s nd tb T x3 k3 fr3 _ tbl=>⟨_,_,rfl,?_⟩
 have r3:=bF k3 r2 _root_.id
 have apM:apk (ad h.size) (sa tb) (sa q.hb) true h3 R:=by
  unfold apk
  exact cr rfl (hR h3 (k1.trans (k2.trans k3)))
 refine cj rfl ⟨a2,ia r3 rfl,ca (fun fE=>apM) fun o5=>⟨a3,ia r3 rfl,?_⟩⟩
 by_cases am6:(a3.n:Int)>100
 ·rw [decide_eq_true am6];exact apM
 rw [decide_eq_false am6]
 unfold apk
 refine cj rfl (dh fun h4 e4=>?_)
 have o0:ops.length≤300:=by omega
 have aec:alN.length≤100:=by omega
 have k4:bY N h3 h4:=e4▸cF _ _ _
 have r4:eM h4 h3.size [.slice none 0 0,.slice none 0 0,.slice none 0 0]:=e4▸du h3 #[.slice none 0 0,.slice none 0 0,.slice none 0 0] 54
 clear e4
 have G4:=Good.new x3 (k2.trans k3) (fr3.arF k2.1) tbl hz1 r4 k4
 rw [show nb h3=ad h3.size from rfl]
 have g40:∀j,j<3→((Tr.none).p j).length≤0:=fun _ _=>bH _
 generalize hpb:h3.size=pb at *
 refine as6 (fun m s1 s3 s4 s5 s6 g=>∃(i:Nat) (q:HQ) (s:RS) (nd:List di) (T:TD) (A:AT) (D:Tr),
  s1=ad h.size∧s3=some (ad tb)∧s4=some (ad q.hb)∧s5=ad pb∧s6=(i:Int)∧m+i=ops.length∧(D.ks 0).Perm A.su∧A.m.length≤i∧A.sd=sd∧(∀j,j<3→(D.p j).length≤i)∧D.p 1=[]∧D.p 2=[]∧Good 401 h1 h3 g q s nd tb T A pb D) ops.length ⟨0,q,s,nd,T,AT.new sd,Tr.none,rfl,rfl,rfl,rfl,rfl,rfl,fT _,bH _,rfl,g40,rfl,rfl,G4⟩ ?_
 clear G4 x3 fr3 k4 k3 r3 r2 tbl o5 g40 r4 k2 apM am6
 rintro n1 s1 s3 s4 s5 s6-g ⟨i,q,s,nd,T,A,D,rfl,rfl,rfl,rfl,rfl,hm,hks,hAi,hAs,hDl,hd1,hd2,G⟩
 unfold auu
 have rg:=bF G.k r1 _root_.id
 have sg:=st1.cI G.k
 refine⟨a2,ia rg rfl,ca (fun fE=>?_) fun o5=>?_⟩
 ·have hi:i<ops.length:=by omega
  obtain⟨p,hp,xH,_⟩:=sg.iL i ops[i] (br hi)
  obtain⟨_,_,_,cS⟩:=st1.iL i ops[i] (br hi)
  generalize ops[i]=o at *
  have c0:cell g (p.add (i*5))=some (vb o.gone):=by
   have:=xH 0 _ rfl;rw [qJ,iF]at this;exact this
  refine⟨a2,ia rg rfl,⟨by omega,fE⟩,cW hp ?_⟩
  rw [bu]
  refine⟨_,c0,o.key,xH 1 _ rfl,_,xH 2 _ rfl,_,xH 3 _ rfl,_,xH 4 _ rfl,?_⟩
  refine Y4 G cS hks (by omega) (fun j hj=>by have:=hDl j hj;omega) fun g2 q' s' gm T' D' G2 eh sDq=>⟨_,rfl,cj rfl ?_⟩
  have wi:wrap .i64 ((i:Int)+1)=((i+1:Nat):Int):=by rw [bU (by omega) (by omega)];omega
  have em:∀j,j<3→j≠0→D.p j=[]→D'.p j=[]:=fun j hj h0 e=>by
   cases hg:o.gone with
   |true=>rw [sDq.g hg j hj,e];rfl
   |false=>rw [sDq.otq hg j h0,e]
  exact⟨n1-1,by omega,i+1,q',s',gm,T',A.step o,D',rfl,rfl,by rw [eh],rfl,wi,by omega,sDq.su G.x.y.CV hks,by have:=A.u7 o;omega,(A.aoO o).trans hAs,fun j hj=>by have:=sDq.len hj;have:=hDl j hj;omega,em 1 (by omega) (by omega) hd1,em 2 (by omega) (by omega) hd2,G2⟩
 ·obtain rfl:i=ops.length:=by omega
  have l0:=hDl 0 (by omega)
  have n0':(D.a 0).n=(D.p 0).length:=by have:=(G.m.l 0 (by omega)).len;rw [bA]at this;omega
  have n1':(D.a 1).n=0:=by have:=(G.m.l 1 (by omega)).len;rw [hd1]at this;simp at this;omega
  refine⟨D.a 1,by rw [cm];exact(bS G.m.row 1).trans rfl,D.a 0,(bS G.m.row 0).trans rfl,(D.p 0).map (fun p=>n8 p.1),(G.m.l 0 (by omega)).rd,by rw [bA,n0',cQ],?_⟩
  refine(G.m.l 1 (by omega)).Av (m:=(D.a 0).n) G.m.hs rfl (by rw [bA,n0',cQ]) (fun v hv=>by obtain⟨p,_,rfl⟩:=cy.1 hv;rfl) (by omega) (by omega) fun a' c' Aj jK gl kk nw=>?_
  refine G.store (i:=1) (by omega) (ays:=(ad pb).add 1) (cm _ _) (a':=⟨a',(D.a 1).n+(D.a 0).n,c'⟩) (ZF:=D.p 1++D.p 0) (by rw [cx];exact gl) kk nw (fun p hp=>?_) fun Tl x12 k12=>?_
  ·rcases bI.1 hp with hp|hp
   ·exact G.m.kd 1 (by omega) p hp
   ·exact G.m.kd 0 (by omega) p hp
  have S0q:ScS sd ops.length A (D.set 1 ⟨a',(D.a 1).n+(D.a 0).n,c'⟩ jK (D.p 1++D.p 0)) 0 0 0:=by
   have e1:(D.set 1 ⟨a',(D.a 1).n+(D.a 0).n,c'⟩ jK (D.p 1++D.p 0)).p 1=D.p 0:=by rw [Tr.ap0,hd1];rfl
   have e2:(D.set 1 ⟨a',(D.a 1).n+(D.a 0).n,c'⟩ jK (D.p 1++D.p 0)).p 2=[]:=hd2
   refine⟨hks,hAs,by omega,fun k hk=>⟨hks.mem_iff.1 (by unfold Tr.ks at hk ⊢;rw [e1]at hk;exact hk),fun h=>(by omega)⟩,fun k hk=>(by unfold Tr.ks at hk;rw [e2]at hk;cases hk),?_,by rw [e1];omega,by rw [e2];exact cP _⟩
   have:A.ahead 0≤A.su.length:=dT _ _
   have e3:A.su.length=A.m.length:=by unfold AT.su;rw [bA]
   omega
  generalize D.set 1 ⟨a',(D.a 1).n+(D.a 0).n,c'⟩ jK (D.p 1++D.p 0)=D1q at *
  clear gl kk nw n0' n1' l0 hd1 hd2 hDl hAs hAi hks hm o5 rg sg G D
  refine apj (avp h h1 h3 tb pb sd ops.length alN.length) (ops.length+alN.length+2) ⟨0,0,0,q,s,nd,T,A,D1q,rfl,rfl,rfl,rfl,rfl,rfl,rfl,rfl,cP _,by omega,S0q,x12⟩ ?_
  clear S0q x12 k12 Tl
  rintro n2 s1 s3 s4 s5 s7 s8 s9-g ⟨c,u,ajg,q,s,nd,T,A,D,rfl,rfl,rfl,rfl,rfl,rfl,rfl,hm,hu,Jj,Z,G⟩
  unfold ave
  have rg:=bF G.k r1 _root_.id
  have zlq:=Z.len
  have zpq:=Z.pot
  have w1:wrap .i64 (wrap .i64 ((1:Int)+(a2.n:Int))+(a3.n:Int))=((1+ops.length+alN.length:Nat):Int):=by
   rw [bU (x:=(1:Int)+(a2.n:Int)) (by omega) (by omega),bU (by omega) (by omega)];omega
  refine⟨a2,ia rg rfl,a3,ia rg rfl,?_⟩
  rw [w1]
  refine cr (decide_eq_true (by omega)) ⟨n0,ia rg rfl,?_⟩
  have pg:=ao7 (cuq:=c) G.x.y n0
  refine au0 G Jj n0 fun la oba ps g1 Y epl kk1=>?_
  have avk:ps.length≤401:=by
   have h1:=KH (n:=mR n0) (aS A.aO c) 0 []
   have h2:(aS A.aO c).length≤A.aO.length:=dT _ _
   have h3:A.aO.length=A.m.length:=by unfold AT.aO AT.su;rw [(oU _).length_eq,bA,bA]
   have h4:([]:List (LN)).length=0:=rfl
   rw [←epl,bA]at h1
   omega
  generalize (jZ (mR n0) (aS A.aO c) 0 []).1=nx at *
  generalize (jZ (mR n0) (aS A.aO c) 0 []).2=l at *
  refine⟨_,la,rfl,?_⟩
  have G1:=G.cI kk1
  have zl2:=Z.l2
  have zl1:=Z.l1
  have d0l:(D.p 0).length=A.m.length:=by have:=Z.ks.length_eq;unfold Tr.ks AT.su at this;rw [bA,bA]at this;exact this
  have esd:=Z.sdE
  have lan:la.n=l.length:=by have:=Y.gl.len;rw [bA]at this;rw [←epl,bA];omega
  refine aqx G1 Y (fun p hp=>Z.ks.mem_iff.2 (pg.mem p.2 (by rw [←epl];exact cy.2 ⟨p,hp,rfl⟩)).1) (fun p hp hm=>?_) (by rw [epl];exact pg.CV) (by omega) (by omega) fun g2 D2q G2 d0 d1 d2=>⟨_,rfl,cj rfl ?_⟩
  ·have h1:=Z.told p.2 hm
   have h2:=(pg.mem p.2 (by rw [←epl];exact cy.2 ⟨p,hp,rfl⟩)).2.1
   rw [esd]at h2
   omega
  have ek1:D2q.ks 1=D.ks 1:=by unfold Tr.ks;rw [d1]
  have ek2:D2q.ks 2=D.ks 2++l:=by unfold Tr.ks;rw [d2,cx,epl]
  by_cases hnx:nx=0
  ·subst hnx
   refine cj rfl (cr rfl ?_)
   refine api (fun m s5 rO g=>∃i:Nat,s5=ad pb∧rO=(i:Int)∧m+i=(D.p 1).length∧g=g2) (D.p 1).length ⟨0,rfl,rfl,rfl,rfl⟩ ?_
   rintro n3 s5 rO-g ⟨i,rfl,rfl,hm3,rfl⟩
   unfold avd
   have aBQ:(D2q.a 1).n=(D.p 1).length:=by have:=(G2.m.l 1 (by omega)).len;rw [bA,d1]at this;omega
   refine⟨D2q.a 1,by rw [cm];exact(bS G2.m.row 1).trans rfl,ca (fun fE=>?_) fun o5=>hR g (k1.trans G2.k)⟩
   have iZ:i<(D2q.ks 1).length:=by unfold Tr.ks;rw [bA,d1];omega
   have e1:(D2q.ks 1)[i]?=some (D2q.ks 1)[i]:=br iZ
   have avs:(D2q.ks 1)[i]∈D.ks 1:=(show ∀L:List (LN),L=D.ks 1→∀k∈L,k∈D.ks 1 from fun L e k hk=>e▸hk) _ ek1 _ (nQ iZ)
   generalize (D2q.ks 1)[i]=k at *
   obtain⟨p,c1,ha,Dp,r1',n1',l1'⟩:=(G2.m.kl (j:=1) (by omega)).TJ i k e1
   have told:k∈D2q.ks 2:=by
    obtain⟨h1,h2⟩:=Z.aqg k avs
    rw [ek2]
    by_cases fE:fU sd k<c
    ·exact bW _ (h2 fE)
    ·exact bK _ (pg.all k h1 (by rw [esd];omega) (.inl rfl))
   have hz:=(u4 k (D2q.ks 2) 0).2 told
   refine⟨D2q.a 2,by rw [cm];exact(bS G2.m.row 2).trans rfl,D2q.a 1,by rw [cm];exact(bS G2.m.row 1).trans rfl,⟨by omega,fE⟩,cW ha ⟨c1,by rw [bu,cQ];exact Dp,_,lp (G2.m.kl (j:=2) (by omega)) r1' n1' (by unfold Tr.ks;rw [bA,d2,bG];omega) ⟨rfl,rfl⟩,?_⟩⟩
   exact cj (decide_eq_false (by show ¬amZ (D2q.ks 2) k 0<0;omega)) ⟨n3-1,by omega,i+1,rfl,by rw [bU (by omega) (by omega)];omega,by omega,rfl⟩
  ·obtain⟨up1,up2,_⟩:=pg.up hnx
   have ll:l.length≠0:=fun e=>up2 (dA.1 e)
   have ne0:((nx:Int)==(0:Int))=false:=by rw [beq_eq_false_iff_ne];omega
   refine cr (by rw [bne,ne0];rfl) (cj (decide_eq_false (by omega)) (cj (by rw [beq_eq_false_iff_ne,lan];omega) (cj ne0 ?_)))
   have Z2q:=Z.avr pg d0 d1 d2 epl hnx avk
   have tmq:Int.tmod (ajg:Int) 4=((ajg%4:Nat):Int):=by rw [Int.tmod_eq_emod_of_nonneg (by omega)];omega
   have wkq:wrap .i64 ((1:Int)+Int.tmod (ajg:Int) 4)=((1+ajg%4:Nat):Int):=by rw [tmq,bU (by omega) (by omega)];omega
   have wp:wrap .i64 ((ajg:Int)+1)=((ajg+1:Nat):Int):=by rw [bU (by omega) (by omega)];omega
   have nxl:=pg.lt
   refine aph (fun m s1 s3 s4 s5 s7 s8 s9 Sx g=>∃(j u:Nat) (q:HQ) (s:RS) (nd:List di) (T:TD) (A:AT) (D:Tr),s1=ad h.size∧s3=some (ad tb)∧s4=some (ad q.hb)∧s5=ad pb∧s7=(nx:Int)∧s8=(u:Int)∧s9=(ajg:Int)∧Sx=(j:Int)∧m+j=5∧u≤alN.length∧ScS sd ops.length A D nx u (ajg+1)∧Good 401 h1 h3 g q s nd tb T A pb D) 5 ⟨0,u,q,s,nd,T,A,D2q,rfl,rfl,rfl,rfl,rfl,rfl,rfl,rfl,rfl,hu,Z2q,G2⟩ ?_
   clear Z2q G2 ek1 ek2 d0 d1 d2 G1 Y epl pg rg G Z zlq zpq zl1 zl2 d0l esd D2q D up2 ll lan avk
   rintro n4 s1 s3 s4 s5 s7 s8 s9 Sx-g ⟨j,u,q,s,nd,T,A,D,rfl,rfl,rfl,rfl,rfl,rfl,rfl,rfl,hm4,hu,Z,G⟩
   unfold avc
   have rg:=bF G.k r1 _root_.id
   have mgq:=mo1.cI G.k
   have zlq:=Z.len
   have zpq:=Z.pot
   have zl2:=Z.l2
   have zl1:=Z.l1
   have d0l:(D.p 0).length=A.m.length:=by have:=Z.ks.length_eq;unfold Tr.ks AT.su at this;rw [bA,bA]at this;exact this
   have next:∃m,m<n2∧avp h h1 h3 tb pb sd ops.length alN.length m (ad h.size) (sa tb) (sa q.hb) (ad pb) (nx:Int) (u:Int) (wrap .i64 ((ajg:Int)+1)) g :=
    ⟨n2-1,by omega,nx,u,ajg+1,q,s,nd,T,A,D,rfl,rfl,rfl,rfl,rfl,rfl,wp,by omega,hu,nxl,Z,G⟩
   refine⟨by omega,?_⟩
   rw [wkq]
   refine ca (fun hj=>?_) fun _=>next
   refine⟨a3,ia rg rfl,ca (fun fE=>?_) fun _=>next⟩
   have hi:u<alN.length:=by omega
   obtain⟨p,hp,xH,_⟩:=mgq.iL u alN[u] (br hi)
   obtain⟨p',HV,avt,cS⟩:=mo1.iL u alN[u] (br hi)
   generalize alN[u]=o at *
   obtain rfl:p=p':=bt (hp.symm.trans HV)
   have c0:cell g (p.add (u*5))=some (vb o.gone):=by
    have:=xH 0 _ rfl;rw [qJ,iF]at this;exact this
   refine⟨a3,ia rg rfl,⟨by omega,fE⟩,cW hp ?_⟩
   rw [bu]
   refine⟨_,c0,o.key,xH 1 _ rfl,_,xH 2 _ rfl,_,xH 3 _ rfl,_,xH 4 _ rfl,?_⟩
   refine Y4 G cS Z.ks (by omega) (fun j hj=>?_) fun g2 q' s' gm T' D' G2 eh sDq=>⟨_,rfl,cj rfl ?_⟩
   ·match j,hj with
    | 0,_=>omega
    | 1,_=>omega
    | 2,_=>omega
   have Z2q:=Z.step sDq G.x.y.CV
   have wuq:wrap .i64 ((u:Int)+1)=((u+1:Nat):Int):=by rw [bU (by omega) (by omega)];omega
   have wjq:wrap .i64 ((j:Int)+1)=((j+1:Nat):Int):=by rw [bU (by omega) (by omega)];omega
   have rg2:=bF G2.k r1 _root_.id
   refine⟨a3,ia rg2 rfl,⟨by omega,fE⟩,cW hp ⟨_,qP G2.k (avt 3 _ rfl),by omega,?_⟩⟩
   rw [←eh]
   by_cases hb8:(Int.tmod (o.b:Int) 8==(0:Int))=true
   ·refine cr hb8 (ami G2.x fun g3 q3 s3 a3' y3=>⟨rfl,?_⟩)
    exact⟨n4-1,by omega,j+1,u+1,q3,s3,gm,T',_,D',rfl,rfl,by rw [a3'.ex.1],rfl,rfl,wuq,rfl,wjq,by omega,by omega,Z2q,G2.PX y3 a3'.ex⟩
   ·exact cj (by simpa using hb8) ⟨n4-1,by omega,j+1,u+1,q',s',gm,T',_,D',rfl,rfl,rfl,rfl,rfl,wuq,rfl,wjq,by omega,by omega,Z2q,G2⟩
end
def ao3:LN→Code→Code→Code
 | [],x,_=>x
 | 0::π,x,.seq a b=>.seq (ao3 π x a) b
 |_::π,x,.seq a b=>.seq a (ao3 π x b)
 | 0::π,x,.cond c a b=>.cond c (ao3 π x a) b
 |_::π,x,.cond c a b=>.cond c a (ao3 π x b)
 |_::π,x,.block id c=>.block id (ao3 π x c)
 |_::π,x,.loop c=>.loop (ao3 π x c)
 |_,_,c=>c
theorem auY:∀(π:LN) (c:Code),ao3 π (sub π c) c=c
 | [],c=>rfl
 | 0::π,c=>by
  cases c<;>first|rfl|simp only [ao3,sub,auY π]
 | (k+1)::π,c=>by
  cases c<;>first|rfl|simp only [ao3,sub,auY π]
end Go.Ev
