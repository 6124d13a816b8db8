/- Lists of byte strings read only: equal, copi. No condition. -/
import Derived.Test.YtjigacanjlppiaaGreatDoorP15
set_option linter.all false
set_option maxRecDepth 1000000
open Go.IntKind (wrap)
namespace Go.Ev
open Go.Proofs
structure KS (h:Hp) (a:Sl) (ks:List (LN)):Prop where
 n:a.n=ks.length
 cap:a.n≤a.c
 TJ:∀i k,ks[i]?=some k→∃(p:Addr) (c:Sl),a.a=some p∧cell h (p.add i)=some (.slice c.a c.n c.c)∧dZ h c.a (k.map bv)∧c.n=k.length∧k.length<140737488355328
theorem Lr(a b:LN):(decide (i0 a b≤0)||decide (i0 b a≤0))=true:=by
 rw [Bt a b]
 simp only [rM,decide_eq_true_eq]
 omega
theorem Lq(a b c:LN)(h1:decide (i0 a b≤0)=true) (h2:decide (i0 b c≤0)=true):decide (i0 a c≤0)=true:=by
 rw [decide_eq_true_eq]at *
 by_cases e1:i0 a b=0
 ·rw [ug e1];exact h2
 ·by_cases e2:i0 b c=0
  ·rw [←ug e2];exact h1
  ·have:=qx (a:=a) (b:=b) (c:=c) (by omega) (by omega)
   omega
section
variable {h h' h0 h1 h2 g:Hp} {R:RP} {a c:Sl} {ob:Option Nat} {l:List Nm} {ks Q0:List (LN)}
theorem qP {p:Addr}{v:Value}(k:bY N h h')(e:cell h p=some v):cell h' p=some v:=by
 have hb:p.block<h.size:=Nat.lt_of_not_le fun uc=>by
  unfold cell at e
  rw [jh uc]at e
  cases e
 unfold cell at e ⊢
 rw [k.2 _ hb _root_.id]
 exact e
theorem KS.cI(x:KS h a ks)(k:bY N h h'):KS h' a ks :=
 ⟨x.n,x.cap,fun i y hy=>by
  obtain⟨p,c,e1,e2,e3,e4,e5⟩:=x.TJ i y hy
  exact⟨p,c,e1,qP k e2,fC k e3,e4,e5⟩⟩
theorem KS.nil(h:Hp):KS h ⟨none,0,0⟩ []:=⟨rfl,bH _,nofun⟩
theorem BL.KA(x:BL h0 h a ob l)(hl:∀y∈l,y.key.length<140737488355328):KS h a (l.map (·.key)):=by
 refine⟨by rw [bA];exact x.len,?_,fun i k hk=>?_⟩
 ·cases ob with
  |none=>have:=x.gl.sl.nil rfl;omega
  |some b=>exact(x.gl.sl.row b rfl).2.1
 ·rw [bD,jd]at hk
  obtain⟨y,hy,rfl⟩:=hk
  obtain⟨b,hb,ha,hc⟩:=x.gl.at (o:=i) (v:=bsV y) (by rw [bD,hy];rfl)
  have hm:=bx hy
  exact⟨ad b,⟨some (ad y.c),y.key.length,y.key.length⟩,ha,hc,lq (x.row y hm).1,rfl,hl y hm⟩
theorem KS.take(x:KS h a ks){m:Nat}(hm:m≤ks.length):KS h ⟨if a.c=(0:Int).toNat then a.a else Option.map (fun x=>x.add ((0:Int).toNat*1)) a.a,m,a.c-(0:Int).toNat⟩ (ks.take m):=by
 have hn:=x.n
 have hc:=x.cap
 refine⟨by rw [dm];show m=_;omega,by show m≤a.c-0;omega,fun i k hk=>?_⟩
 have him:i<m:=by
  have:=(bp.1 hk).1
  rw [dm]at this
  omega
 rw [f9 him]at hk
 obtain⟨p,c,e1,e2,e3,e4,e5⟩:=x.TJ i k hk
 refine⟨p.add 0,c,?_,by rw [qJ,fo];exact e2,e3,e4,e5⟩
 show (if a.c=0 then a.a else Option.map (fun x=>x.add (0*1)) a.a)=_
 have h0:a.c≠0:=by omega
 rw [if_neg h0,e1]
 rfl
theorem KS.drop(x:KS h a ks){m:Nat}(hm:m≤ks.length):KS h ⟨if a.c=m then a.a else Option.map (fun x=>x.add (m*1)) a.a,a.n-m,a.c-m⟩ (ks.drop m):=by
 have hn:=x.n
 have hc:=x.cap
 refine⟨by rw [fu];show a.n-m=_;omega,by show a.n-m≤a.c-m;omega,fun i k hk=>?_⟩
 rw [fi]at hk
 have fE:=(bp.1 hk).1
 obtain⟨p,c,e1,e2,e3,e4,e5⟩:=x.TJ _ k hk
 refine⟨p.add m,c,?_,by rw [qJ];exact e2,e3,e4,e5⟩
 show (if a.c=m then a.a else Option.map (fun x=>x.add (m*1)) a.a)=_
 have h0:a.c≠m:=by omega
 rw [if_neg h0,e1,cQ]
 rfl
theorem agb {k k':LN}(ra:dZ h a.a (k.map bv)) (na:a.n=k.length) (hl:k.length<140737488355328) (rc:dZ h c.a (k'.map bv)) (nc:c.n=k'.length) (hR:R (vi (i0 k k')) h):bq PG 62 #[.slice a.a a.n a.c,.slice c.a c.n c.c] h R :=
 RW ra rc na nc (by omega) hR
theorem JR(x:KS h a ks)(y:KS h c Q0)(o0:ks.length<4611686018427387904)(hR:R (vb (decide (ks=Q0))) h):bq PG 25 #[.slice a.a a.n a.c,.slice c.a c.n c.c] h R:=by
 have xn:=x.n
 have yn:=y.n
 refine acp ?_
 unfold aom
 by_cases hl:ks.length=Q0.length
 ·refine cj (bne_eq_false_iff_eq.2 (by rw [xn,yn,hl])) ?_
  refine O4 (s0:=a) (s1:=c) (fun p s0 s1 s5 h'=>∃i:Nat,i≤ks.length∧p=ks.length-i∧a=s0∧c=s1∧s5=(i:Int)∧h=h'∧∀j,j<i→ks[j]?=Q0[j]?) ks.length ⟨0,cP _,rfl,rfl,rfl,rfl,rfl,nofun⟩ ?_
  rintro p s0 s1 s5 g0 h' ⟨i,hi,rfl,rfl,rfl,rfl,rfl,hs⟩
  unfold Xy
  refine ca (fun fE=>?_) fun o5=>?_
  ·have iZ:i<ks.length:=by omega
   have e1:ks[i]?=some (ks[i]'iZ):=br iZ
   have e2:Q0[i]?=some (Q0[i]'(by omega)):=br (by omega)
   generalize ks[i]'iZ=k at e1
   generalize Q0[i]'(by omega)=k' at e2
   obtain⟨p,c1,ha,hc,r1,n1,l1⟩:=x.TJ i k e1
   obtain⟨p',c2,AK,tG,r2,n2,l2⟩:=y.TJ i k' e2
   refine⟨by omega,cW ha ⟨c1,by rw [bu,cQ];exact hc,by omega,cW AK ⟨c2,by rw [bu,cQ];exact tG,_,agb r1 n1 l1 r2 n2 ⟨rfl,rfl⟩,?_⟩⟩⟩
   by_cases e:k=k'
   ·subst e
    refine cj (by rw [vx];rfl) ⟨ks.length-(i+1),by omega,i+1,iZ,rfl,rfl,rfl,by rw [bU (by omega) (by omega)];rfl,rfl,fun j hj=>?_⟩
    by_cases HY:j=i
    ·rw [HY,e1,e2]
    ·exact hs j (by omega)
   ·refine cr (bne_iff_ne.2 fun h=>e (ug h)) ?_
    rw [decide_eq_false (fun h=>e (by rw [h,e2]at e1;exact(bt e1).symm))]at hR
    exact hR
  ·obtain rfl:i=ks.length:=by omega
   have:ks=Q0:=cG fun j=>by
    by_cases hj:j<ks.length
    ·exact hs j hj
    ·rw [bV (by omega),bV (by omega)]
   rw [decide_eq_true this]at hR
   exact hR
 ·refine cr (bne_iff_ne.2 (by rw [xn,yn];omega)) ?_
  rw [decide_eq_false (fun h=>hl (by rw [h]))]at hR
  exact hR
theorem AQ {a:Sl}{l:LN}(ha:dZ h a.a (l.map bv)) (na:a.n=l.length) (hn:l.length<140737488355328)
  (hR:∀c h',eM h' c (l.map bv)→h.size≤c→bY N h h'→R (.slice (sa c) l.length l.length) h'):bq PG 106 #[.slice a.a a.n a.c] h R:=by
 refine YH ?_
 unfold afw
 rw [na]
 refine⟨by omega,by omega,by omega,dh fun h1 e1=>?_⟩
 rw [bu]at e1 ⊢
 have k1:bY N h h1:=e1▸cF _ _ _
 have A2:eM h1 h.size (List.replicate l.length (bv 0)):=by
  have e2:=e1
  rw [o6]at e2
  exact e2▸du h (List.replicate l.length (bv 0)).toArray 5
 have YT:nb h=ad h.size:=rfl
 rw [YT]
 refine RT (o:=0) (l:=l) A2 (fC k1 ha) rfl (bH _) (by rw [fq];omega) (fun _=>rfl) fun h2 mi k2=>?_
 have e:B1 (List.replicate l.length (bv 0)) 0 (l.map bv)=l.map bv:=by unfold B1;simp
 rw [e]at mi
 exact hR _ h2 mi (bH _) ⟨bP k1.1 k2.1,fun j hj _=>(k2.2 j (bZ hj k1.1) (by omega)).trans (k1.2 j hj _root_.id)⟩
theorem RV(x:KS h a ks)(hl:ks.length<2)(hR:∀c h',KS h' c ks→bY N h h'→R (.slice c.a c.n c.c) h'):bq PG 66 #[.slice a.a a.n a.c] h R:=by
 have xn:=x.n
 refine abZ ?_
 unfold an1
 refine⟨by omega,by omega,by omega,dh fun h1 e1=>?_⟩
 have k1:bY N h h1:=e1▸cF _ _ _
 rw [show nb h=ad h.size from rfl]
 match ks,hl,x with
 | [],_,x =>
  obtain⟨aa,an,ac⟩:=a
  have xn:an=0:=x.n
  subst xn
  clear e1
  refine Fv (s0:=⟨aa,0,ac⟩) (s3:=⟨some (ad h.size),_,_⟩) (fun p s0 s3 s4 h'=>s0.n=0∧s3=⟨some (ad h.size),0,0⟩∧s4=0∧h1=h') 0 ⟨rfl,rfl,rfl,rfl⟩ ?_
  rintro p s0 s3 s4 g0 h' ⟨hn,rfl,rfl,rfl⟩
  unfold Mc
  refine cj (by rw [hn];rfl) (hR ⟨some (ad h.size),0,0⟩ h1 ⟨rfl,bH _,nofun⟩ k1)
 | [k],_,x =>
  obtain⟨aa,an,ac⟩:=a
  have xn:an=1:=x.n
  subst xn
  have w1:eM h1 h.size [.slice none 0 0]:=by
   rw [o6]at e1
   have e2:h1=h.push (.cells (List.replicate 1 (Value.slice none 0 0)).toArray 39):=e1
   rw [e2]
   exact du h (List.replicate 1 (Value.slice none 0 0)).toArray 39
  clear e1
  obtain⟨p,c1,ha,hc,r1,n1,l1⟩:=x.TJ 0 k rfl
  refine Fv (s0:=⟨aa,1,ac⟩) (s3:=⟨some (ad h.size),_,_⟩) (fun p s0 s3 s4 h'=>(⟨aa,1,ac⟩:Sl)=s0∧s3=⟨some (ad h.size),1,1⟩∧((p=1∧s4=0∧h1=h')∨(p=0∧s4=1∧KS h' ⟨some (ad h.size),1,1⟩ [k]∧bY N h h'))) 1 ⟨rfl,rfl,.inl ⟨rfl,rfl,rfl⟩⟩ ?_
  rintro m s0 s3 s4 g0 h' ⟨rfl,rfl,⟨rfl,rfl,rfl⟩|⟨rfl,rfl,ksx,kk⟩⟩
  ·unfold Mc
   refine cr rfl ⟨⟨by omega,by show (0:Int)<((1:Nat):Int);omega⟩,cW ha ⟨c1,qP k1 hc,?_⟩⟩
   refine AQ (fC k1 r1) n1 l1 fun cb h2 mi GZ k2=>⟨⟨_,_,_⟩,rfl,⟨by omega,by show (0:Int)<((1:Nat):Int);omega⟩,bw ?_⟩
   refine eu (bF k2 w1 _root_.id) (i:=0) (cm _ _) (by simp) fun h3 w3 k3=>⟨0,by omega,rfl,rfl,.inr ⟨rfl,rfl,?_,cL (k1.trans k2) k3 fun b e=>by omega⟩⟩
   refine⟨rfl,bH _,fun i y hy=>?_⟩
   have:i=0∧k=y:=by
    cases i with
    |zero=>exact⟨rfl,bt hy⟩
    |succ i=>cases hy
   obtain⟨rfl,rfl⟩:=this
   have hk2:=k1.1
   have fE:=eE w1
   exact⟨ad h.size,⟨some (ad cb),k.length,k.length⟩,rfl,ia w3 rfl,lq (bF k3 mi (by omega)),rfl,l1⟩
  ·unfold Mc
   exact cj rfl (hR _ _ ksx kk)
abbrev oD(a b:LN):Bool:=decide (i0 a b≤0)
def slW(c:Sl):Value:=.slice c.a c.n c.c
structure Zv (h0 g:Hp) (a:Sl) (ob:Option Nat) (ps:List (Sl × LN)):Prop where
 gl:GL 1 h0 g a ob (ps.map fun p=>slW p.1)
 rd:∀p∈ps,dZ h0 p.1.a (p.2.map bv)∧p.1.n=p.2.length∧p.2.length<140737488355328
theorem Zv.KA {h0 g:Hp}{a:Sl}{ob:Option Nat}{ps:List (Sl × LN)} (x:Zv h0 g a ob ps) (k:bY N h0 g):KS g a (ps.map (·.2)):=by
 have hl:=x.gl.len
 rw [bA]at hl
 refine⟨by rw [bA];omega,?_,fun i y hy=>?_⟩
 ·cases ob with
  |none=>have:=x.gl.sl.nil rfl;omega
  |some b=>exact(x.gl.sl.row b rfl).2.1
 ·rw [bD,jd]at hy
  obtain⟨p,hp,rfl⟩:=hy
  obtain⟨b,hb,ha,hc⟩:=x.gl.at (o:=i) (v:=slW p.1) (by rw [bD,hp];rfl)
  have h1:=x.rd p (bx hp)
  exact⟨ad b,p.1,ha,hc,fC k h1.1,h1.2.1,h1.2.2⟩
theorem sR (l:List (LN)):List.merge [] l oD=l:=by simp
theorem wM (l:List (LN)):List.merge l [] oD=l:=by simp
theorem wg {α:Type}{l:List α}{i:Nat}{x:α}(h:l[i]?=some x):l.drop i=x::l.drop (i+1):=by
 obtain⟨hl,rfl⟩:=bp.1 h
 exact d8 hl
def P0(h3:Hp)(k1 k2:List (LN)) (c1 c2:Sl) (p:Nat) (s3 s4 s5:Sl) (s6 s7:Int) (g:Hp):Prop :=
 ∃(i j:Nat) (ob:Option Nat) (ps:List (Sl × LN)),i≤k1.length∧j≤k2.length∧p=(k1.length-i)+(k2.length-j)∧c1=s3∧c2=s4∧s6=(i:Int)∧s7=(j:Int)∧Zv h3 g s5 ob ps∧ps.length=i+j∧bY N h3 g∧List.merge k1 k2 oD=ps.map (·.2)++List.merge (k1.drop i) (k2.drop j) oD
theorem adN {h3 g:Hp}{ks:List (LN)} {cc s5:Sl} {ob:Option Nat} {ps:List (Sl × LN)} {t:Nat} {K:OA→Nat→Nat→Hp→Prop} {k:LN} {p:Addr} {c:Sl} (y:KS h3 cc ks) (hk:ks[t]?=some k) (ha:cc.a=some p) (hc:cell g (p.add t)=some (.slice c.a c.n c.c))
  (ol:Zv h3 g s5 ob ps) (kg:bY N h3 g) (hl:ps.length<300000000)
  (hK:∀a' c' g' jK,Zv h3 g' ⟨a',s5.n+1,c'⟩ jK (ps++[(c,k)])→bY N h3 g'→K a' (s5.n+1) c' g') :
  gi (g.push (.cells #[.slice c.a c.n c.c] 39)) fun h5=>im 39 1 24 #[.slice none 0 0] s5.a s5.n s5.c (some (nb g)) 1 h5 K:=by
 obtain⟨p',c',AK,tG,r1',nn',ll'⟩:=y.TJ t k hk
 have ec:c=c':=by
  rw [ha]at AK
  obtain rfl:=bt AK
  have:=qP kg tG
  rw [hc]at this
  have:=bt this
  injection this with q1 q2 q3
  cases c;cases c'
  simp only at q1 q2 q3
  subst q1 q2 q3
  rfl
 subst ec
 have sn:s5.n=ps.length:=by have:=ol.gl.len;rw [bA]at this;omega
 refine ol.gl.add (arr:=#[slW c]) (e:=39) (t:=39) kg.1 rfl rfl (fun v hv=>by simp at hv;rcases hv with rfl;rfl) (by omega) (by omega) fun a' c' g' jK gl' k' nw=>hK a' c' g' jK ⟨by rw [cx];exact gl',fun p hp=>?_⟩ (cL kg k' fun b e=>ol.gl.new b e)
 rcases bI.1 hp with hp|hp
 ·exact ol.rd p hp
 ·rw [bM.1 hp];exact⟨r1',nn',ll'⟩
theorem Z0:∀(n:Nat) {h:Hp} {a:Sl} {ks:List (LN)} {R:RP},ks.length≤n→ks.length<100000000→KS h a ks→(∀c h' Q0,KS h' c Q0→Q0.Perm ks→Q0.Pairwise (fun x y=>oD x y=true)→bY N h h'→R (.slice c.a c.n c.c) h')→bq PG 27 #[.slice a.a a.n a.c] h R:=by
 intro n
 induction n with
 |zero =>
  intro h a ks R hl hs x hR
  have e:ks=[]:=dA.1 (by omega)
  have xn:=x.n
  refine RD ?_
  unfold ais
  refine cr (decide_eq_true (by omega)) (RV x (by omega) fun c h' y k=>⟨c,rfl,hR c h' ks y (fT _) (by rw [e];exact List.Pairwise.nil) k⟩)
 |succ n ih =>
  intro h a ks R hl hs x hR
  have xn:=x.n
  have xc:=x.cap
  refine RD ?_
  unfold ais
  by_cases h2:ks.length<2
  ·refine cr (decide_eq_true (by omega)) (RV x h2 fun c h' y k=>⟨c,rfl,hR c h' ks y (fT _) ?_ k⟩)
   match ks,h2 with
   | [],_=>exact List.Pairwise.nil
   | [k],_=>exact List.pairwise_singleton _ _
  refine cj (decide_eq_false (by omega)) ?_
  have em:wrap .i64 (Int.tdiv (a.n:Int) (2:Int))=((ks.length / 2:Nat):Int):=by
   rw [xn,show ((2:Int))=((2:Nat):Int)from rfl,←tC]
   exact bU (by omega) (by omega)
  rw [em,bu]
  generalize hm:ks.length / 2=m at *
  have hm1:1≤m∧m<ks.length:=by omega
  refine⟨by omega,by omega,by omega,?_⟩
  have x1:=x.take (m:=m) (by omega)
  refine ih (a:=⟨if a.c=(0:Int).toNat then a.a else Option.map (fun x=>x.add ((0:Int).toNat*1)) a.a,m,a.c-(0:Int).toNat⟩) (ks:=ks.take m) (by rw [dm];omega) (by rw [dm];omega) x1 fun c1 h2 k1 y1 p1 s1 kk1=>⟨c1,rfl,by omega,by omega,?_⟩
  have x2:=(x.cI kk1).drop (m:=m) (by omega)
  refine ih (a:=⟨if a.c=m then a.a else Option.map (fun x=>x.add (m*1)) a.a,a.n-m,a.c-m⟩) (ks:=ks.drop m) (by rw [fu];omega) (by rw [fu];omega) x2 fun c2 h3 k2 y2 p2 s2 Kk=>⟨c2,rfl,by omega,by omega,by omega,dh fun h4 e4=>?_⟩
  have y1:=y1.cI Kk
  have kh3:=kk1.trans Kk
  have l1:=p1.length_eq
  have l2:=p2.length_eq
  rw [dm]at l1
  rw [fu]at l2
  have n1:=y1.n
  have n2:=y2.n
  have k4:bY N h3 h4:=e4▸cF _ _ _
  rw [show nb h3=ad h3.size from rfl]
  have w4:eM h4 h3.size (List.replicate ks.length (.slice none 0 0)):=by
   rw [o6,bu,xn]at e4
   rw [e4]
   exact du h3 (List.replicate ks.length (Value.slice none 0 0)).toArray 39
  clear e4
  have amC:(List.merge k1 k2 oD).Perm ks:=by
   have:=(p1.append p2)
   rw [eZ]at this
   exact(List.merge_perm_append (le:=oD)).trans this
  have amv:(List.merge k1 k2 oD).Pairwise (fun x y=>oD x y=true):=List.pairwise_merge Lq Lr _ _ s1 s2
  have en:(a.n:Int).toNat=ks.length:=by rw [bu,xn]
  rw [en]
  have g0:GL 1 h3 h4 ⟨some (ad h3.size),0,ks.length⟩ (some h3.size) (([]:List (Sl × LN)).map fun p=>slW p.1) :=
   ⟨⟨rfl,nofun,fun b e=>by obtain rfl:=bt e;exact⟨rfl,cP _,List.replicate ks.length (.slice none 0 0),w4,by simp⟩⟩,fun b e=>by obtain rfl:=bt e;exact bH _⟩
  refine OZ (s3:=c1) (s4:=c2) (s5:=⟨some (ad h3.size),(0:Int).toNat,ks.length⟩) (P0 h3 k1 k2 c1 c2) (k1.length+k2.length)
   ⟨0,0,some h3.size,[],cP _,cP _,rfl,rfl,rfl,rfl,rfl,⟨g0,nofun⟩,rfl,k4,rfl⟩ ?_
  rintro p s3 s4 s5 s6 s7 gg g ⟨i,j,ob,ps,hi,hj,rfl,rfl,rfl,rfl,rfl,ol,pl,kg,em⟩
  have yg1:=y1.cI kg
  have yg2:=y2.cI kg
  have ada:∀k,k1[i]?=some k→List.merge (k1.drop i) (k2.drop j) oD=k::List.merge (k1.drop (i+1)) (k2.drop j) oD→Fx (P0 h3 k1 k2 c1 c2) (k1.length-i+(k2.length-j)) c1 c2 s5 (i:Nat) (j:Nat) true g R:=fun k e1 hmm=>by
   have iZ:=(bp.1 e1).1
   unfold Fx
   obtain⟨p,c,ha,hc,r1,nn,ll⟩:=yg1.TJ i k e1
   refine cr rfl ⟨by omega,cW ha ⟨c,by rw [bu,cQ];exact hc,?_⟩⟩
   refine adN y1 e1 ha hc ol kg (by omega) fun a' c' g' jK ol' kg'=>⟨k1.length-(i+1)+(k2.length-j),by omega,i+1,j,jK,ps++[(c,k)],iZ,hj,rfl,rfl,rfl,by rw [bU (by omega) (by omega)];rfl,rfl,ol',by rw [bG,pl];show i+j+1=_;omega,kg',?_⟩
   rw [em,hmm,cx,ce];rfl
  have ac9:∀k,k2[j]?=some k→List.merge (k1.drop i) (k2.drop j) oD=k::List.merge (k1.drop i) (k2.drop (j+1)) oD→Fx (P0 h3 k1 k2 c1 c2) (k1.length-i+(k2.length-j)) c1 c2 s5 (i:Nat) (j:Nat) false g R:=fun k e1 hmm=>by
   have iZ:=(bp.1 e1).1
   unfold Fx
   obtain⟨p,c,ha,hc,r1,nn,ll⟩:=yg2.TJ j k e1
   refine cj rfl ⟨by omega,cW ha ⟨c,by rw [bu,cQ];exact hc,?_⟩⟩
   refine adN y2 e1 ha hc ol kg (by omega) fun a' c' g' jK ol' kg'=>⟨k1.length-i+(k2.length-(j+1)),by omega,i,j+1,jK,ps++[(c,k)],hi,iZ,rfl,rfl,rfl,rfl,by rw [bU (by omega) (by omega)];rfl,ol',by rw [bG,pl];show i+j+1=_;omega,kg',?_⟩
   rw [em,hmm,cx,ce];rfl
  unfold Xo
  refine ca (fun fE=>?_) fun o5=>?_
  ·have iZ:i<k1.length:=by omega
   have e1:k1[i]?=some (k1[i]'iZ):=br iZ
   generalize k1[i]'iZ=x1 at e1
   have d1:=wg e1
   unfold RC
   refine cr rfl ?_
   by_cases nK:j<k2.length
   ·have e2:k2[j]?=some (k2[j]'nK):=br nK
    generalize k2[j]'nK=x2 at e2
    have d2:=wg e2
    refine cj (beq_eq_false_iff_ne.2 (by omega)) (cr (decide_eq_true (by omega)) ?_)
    obtain⟨p,c,ha,hc,r1,nn,ll⟩:=yg1.TJ i x1 e1
    obtain⟨p',c',AK,tG,r1',nn',ll'⟩:=yg2.TJ j x2 e2
    refine⟨by omega,cW ha ⟨c,by rw [bu,cQ];exact hc,by omega,cW AK ⟨c',by rw [bu,cQ];exact tG,_,agb r1 nn ll r1' nn' ⟨rfl,rfl⟩,?_⟩⟩⟩
    by_cases uc:i0 x1 x2≤0
    ·rw [decide_eq_true uc]
     refine ada x1 e1 ?_
     rw [d1,d2,List.cons_merge_cons,if_pos (decide_eq_true uc),←d2]
    ·rw [decide_eq_false uc]
     refine ac9 x2 e2 ?_
     rw [d1,d2,List.cons_merge_cons,if_neg (by rw [decide_eq_true_eq];exact uc),←d1]
   ·refine cr (beq_iff_eq.2 (by omega)) (ada x1 e1 ?_)
    rw [gH (by omega:k2.length≤j),wM,wM,d1]
  ·have eil:i=k1.length:=by omega
   unfold RC
   refine ca (fun LI=>?_) fun am6=>?_
   ·have nK:j<k2.length:=by omega
    have e2:k2[j]?=some (k2[j]'nK):=br nK
    generalize k2[j]'nK=x2 at e2
    have d2:=wg e2
    refine cj (beq_eq_false_iff_ne.2 (by omega)) (cj (decide_eq_false (by omega)) (ac9 x2 e2 ?_))
    rw [gH (by omega:k1.length≤i),sR,sR,d2]
   ·rw [gH (by omega:k1.length≤i),gH (by omega:k2.length≤j),sR,eV]at em
    refine hR s5 g (ps.map (·.2)) (ol.KA kg) (em▸amC) (em▸amv) (kh3.trans kg)
end
section
variable {h h':Hp} {R:RP} {b:LN} {a:Sl}
theorem YV {x y:Nat}(hx:x<18446744073709551616)(hy:y<18446744073709551616)(hR:R (uv (x*y%18446744073709551616)) h):bq PG 237 #[uv x,uv y] h R:=by
 refine Xz ?_
 unfold aeA
 refine Mk (fun p s0 s1 s5 h2=>∃u v w:Nat,p=v∧s0=(u:Int)∧s1=(v:Int)∧s5=(w:Int)∧u<18446744073709551616∧v<18446744073709551616∧w<18446744073709551616∧(w+u*v)%18446744073709551616=x*y%18446744073709551616∧h=h2) y
  ⟨x,y,0,rfl,rfl,rfl,rfl,hx,hy,by omega,by rw [fo],rfl⟩ ?_
 rintro p s0 s1 s5 g h2 ⟨u,v,w,rfl,rfl,rfl,rfl,hu,hv,hw,hq,rfl⟩
 unfold O5
 refine ca (fun Ue=>⟨by omega,?_⟩) fun uc=>?_
 ·have GV:=NC (p:=w) (a:=u) (b:=p)
  have e2:wrap .u64 (Int.tdiv (p:Int) 2)=((p / 2:Nat):Int):=by rw [yw (by omega),eN (by omega) (by omega)];omega
  have nA:∀w':Nat,w'<18446744073709551616→w'=(w+(if p%2=1 then u else 0))%18446744073709551616→Jr (fun p s0 s1 s5 h2=>∃u v w:Nat,p=v∧s0=(u:Int)∧s1=(v:Int)∧s5=(w:Int)∧u<18446744073709551616∧v<18446744073709551616∧w<18446744073709551616∧(w+u*v)%18446744073709551616=x*y%18446744073709551616∧h=h2) p (u:Int) (p:Int) (w':Int) h R:=fun w' On e=>by
   unfold Jr
   refine⟨by omega,p / 2,by omega,(u+u)%18446744073709551616,p / 2,w',rfl,AM u u,e2,rfl,jB _ (by omega),by omega,On,?_,rfl⟩
   rw [e,←GV];exact hq
  have amO:Int.tmod (p:Int) 2=((p%2:Nat):Int):=by rw [Dv (by omega)];omega
  refine fY (fun hb=>?_) fun hb=>?_
  ·have h1:p%2=1:=by rw [amO,beq_iff_eq]at hb;omega
   rw [AM]
   exact nA _ (jB _ (by omega)) (by rw [if_pos h1])
  ·have h1:¬p%2=1:=by rw [amO,beq_eq_false_iff_ne]at hb;omega
   exact nA w hw (by rw [if_neg h1,iF,fS hw])
 ·obtain rfl:p=0:=by omega
  rw [Nat.mul_zero,iF,fS hw]at hq
  rw [←hq]at hR
  exact hR
theorem ag6:mc1<18446744073709551616:=by decide
theorem ag5:mc2<18446744073709551616:=by decide
theorem aoI {x:Nat}(hx:x<18446744073709551616)(hR:R (uv (SU x)) h):bq PG 221 #[uv x] h R:=by
 refine XD ?_
 unfold aeD
 refine⟨by omega,?_⟩
 rw [e32,e29,VW,xsh x 32 hx]
 refine YV (DV hx (II hx)) ag6 ⟨_,rfl,by omega,?_⟩
 show bq _ _ #[vu (yX .u64 (Dl x:Int) (Int.fdiv (Dl x:Int) (2 ^ 29))),_] h _
 rw [xsh (Dl x) 29 (DD x),VV]
 refine YV (DV (DD x) (II (DD x))) ag5 ⟨_,rfl,by omega,?_⟩
 show R (vu (yX .u64 ((K5 (Dl x):Nat):Int) (Int.fdiv ((K5 (Dl x):Nat):Int) (2 ^ 32)))) h
 rw [xsh (K5 (Dl x)) 32 (DC _)]
 exact hR
theorem N9(b:LN){m:Nat}(h:m<wn b.length):(wL b).take (m+1)=(wL b).take m++[jG b (8*m)]:=RS.iO (B0 h)
theorem Q3(b:LN)(o:Nat){j:Nat}(hj:j<8):qY b o (j+1)=qY b o j*256+b.getD (o+(7-j)) 0:=by rw [qY]
theorem aoG (rd:dZ h a.a (b.map bv)) (na:a.n=b.length) (b8:fK b) (hl:b.length≤140737488351232) (hR:∀a2 ob h',GL 1 h h' a2 ob ((wL b).map uv)→bY N h h'→R (.slice a2.a a2.n a2.c) h') :
  bq PG 222 #[.slice a.a a.n a.c] h R:=by
 have hw:wn b.length≤17592186043904:=by unfold wn;omega
 refine XB ?_
 unfold aeC
 rw [na]
 refine Mm (s0:=⟨a.a,b.length,a.c⟩) (s3:=⟨none,0,0⟩) (fun p s0 s3 s4 h2=>∃(m:Nat) (ob:Option Nat),m≤wn b.length∧p=wn b.length-m∧⟨a.a,b.length,a.c⟩=s0∧s4=((8*m:Nat):Int)∧GL 1 h h2 s3 ob (((wL b).take m).map uv)∧bY N h h2) (wn b.length)
  ⟨0,none,cP _,rfl,rfl,rfl,GL.nil 1 h h,bY.refl _ _⟩ ?_
 rintro p s0 s3 s4 g h2 ⟨m,ob,hm,rfl,rfl,rfl,gl,k2⟩
 have gn:s3.n=m:=by
  have:=gl.len
  rw [bA,dm,BZ]at this
  omega
 unfold O7
 refine ca (fun fE=>?_) fun o5=>?_
 ·have fE:8*m<b.length:=by have:((8*m:Nat):Int)<(b.length:Int):=fE;omega
  have hmw:m<wn b.length:=by unfold wn;omega
  refine Ml (s0:=⟨a.a,b.length,a.c⟩) (fun p t0 t3 t4 t5 t6 h3=>∃j:Nat,j≤8∧p=8-j∧⟨a.a,b.length,a.c⟩=t0∧s3=t3∧t4=((8*m:Nat):Int)∧t5=((qY b (8*m) j:Nat):Int)∧t6=7-(j:Int)∧h2=h3) 8
   ⟨0,by omega,rfl,rfl,rfl,rfl,rfl,rfl,rfl⟩ ?_
  rintro p t0 t3 t4 t5 t6 g2 h3 ⟨j,hj,rfl,rfl,rfl,rfl,rfl,rfl,rfl⟩
  unfold O6
  refine ca (fun o5=>?_) fun LI=>?_
  ·have hj8:j<8:=by omega
   have e1:wrap .i64 (((8*m:Nat):Int)+(7-(j:Int)))=((8*m+(7-j):Nat):Int):=by rw [bU (by omega) (by omega)];omega
   rw [e1]
   have hh:=Jd b8 (8*m) j
   have aA2:qY b (8*m) j*256<18446744073709551616:=by
    have:(256:Nat) ^ (j+1)≤256 ^ 8:=fQ (by omega) (by omega)
    rw [BX,mr]at this
    have h3:qY b (8*m) j*256<256 ^ j*256:=Nat.mul_lt_mul_of_pos_right hh (by omega)
    omega
   have ew:wrap .u64 (((qY b (8*m) j:Nat):Int)*256)=((qY b (8*m) j*256:Nat):Int):=by
    generalize qY b (8*m) j=u at *
    rw [eN (by omega) (by omega)];omega
   rw [ew]
   have nx:∀c:Nat,c=b.getD (8*m+(7-j)) 0→Js (fun p s0 s3 s4 h2=>∃(m:Nat) (ob:Option Nat),m≤wn b.length∧p=wn b.length-m∧⟨a.a,b.length,a.c⟩=s0∧s4=((8*m:Nat):Int)∧GL 1 h h2 s3 ob (((wL b).take m).map uv)∧bY N h h2) (wn b.length-m)
     (fun p t0 t3 t4 t5 t6 h3=>∃j:Nat,j≤8∧p=8-j∧⟨a.a,b.length,a.c⟩=t0∧s3=t3∧t4=((8*m:Nat):Int)∧t5=((qY b (8*m) j:Nat):Int)∧t6=7-(j:Int)∧h2=h3) (8-j) ⟨a.a,b.length,a.c⟩ s3 ((8*m:Nat):Int) ((qY b (8*m) j*256+c:Nat):Int) (7-(j:Int)) h2 R:=fun c hc=>by
    unfold Js
    refine⟨8-(j+1),by omega,j+1,hj8,rfl,rfl,rfl,rfl,?_,?_,rfl⟩
    ·rw [Q3 b (8*m) hj8,hc]
    ·rw [bU (by omega) (by omega)];omega
   refine ca (fun GX=>?_) fun ahE=>?_
   ·have GX:8*m+(7-j)<b.length:=by have:((8*m+(7-j):Nat):Int)<(b.length:Int):=GX;omega
    have rd2:=fC k2 rd
    obtain⟨p,hp,hc⟩:=ni rd2 (i:=8*m+(7-j)) (v:=bv (b.getD (8*m+(7-j)) 0)) (by rw [bD,br GX,bB,br GX];rfl)
    refine⟨⟨by omega,by show ((8*m+(7-j):Nat):Int)<(b.length:Int);omega⟩,cW hp ⟨_,by rw [bu,cQ];exact hc,?_⟩⟩
    have hb:=DK b8 (8*m+(7-j))
    have e3:wrap .u64 (((qY b (8*m) j*256:Nat):Int)+wrap .u64 ((b.getD (8*m+(7-j)) 0:Nat):Int))=((qY b (8*m) j*256+b.getD (8*m+(7-j)) 0:Nat):Int):=by
     have hu:=S9 b8 (8*m) (j:=j+1) (by omega)
     rw [Q3 b (8*m) hj8]at hu
     generalize qY b (8*m) j*256=u at *
     generalize b.getD (8*m+(7-j)) 0=v at *
     rw [eN (x:=(v:Int)) (by omega) (by omega),eN (by omega) (by omega)];omega
    rw [e3]
    exact nx _ rfl
   ·have ahE:b.length≤8*m+(7-j):=by have:¬((8*m+(7-j):Nat):Int)<(b.length:Int):=ahE;omega
    exact nx 0 (by rw [bB,bV ahE];rfl)
  ·obtain rfl:j=8:=by omega
   rw [ahG]
   refine gl.add (arr:=#[uv (jG b (8*m))]) k2.1 rfl rfl (fun v hv=>by rw [bM.1 hv];rfl) (by omega) (by omega) fun a' c' h3 jK gl' k3 _=>?_
   rw [←List.map_singleton (f:=uv),←cx,←N9 b hmw]at gl'
   exact⟨wn b.length-(m+1),by omega,m+1,jK,hmw,rfl,rfl,by rw [bU (by omega) (by omega)];omega,gl',cL k2 k3 gl.new⟩
 ·have o5:b.length≤8*m:=by have:¬((8*m:Nat):Int)<(b.length:Int):=o5;omega
  have:wn b.length≤m:=by unfold wn;omega
  rw [eT (by rw [BZ];exact this)]at gl
  exact hR s3 ob h2 gl k2
theorem afI (rd:dZ h a.a (b.map bv)) (na:a.n=b.length) (b8:fK b) (hl:b.length≤140737488351232) {df:Nat} (hs:df<18446744073709551616) (hR:∀h',bY N h h'→R (uv (fU df b)) h') :
  bq PG 192 #[uv df,.slice a.a a.n a.c] h R:=by
 have hw:wn b.length≤17592186043904:=by unfold wn;omega
 refine XL ?_
 unfold aeL
 rw [na]
 have e0:wrap .u64 ((df:Int)+wrap .u64 (b.length:Int))=(((df+b.length)%18446744073709551616:Nat):Int):=by
  rw [eN (x:=(b.length:Int)) (by omega) (by omega),AM]
 rw [e0]
 have hm:(df+b.length)%18446744073709551616<18446744073709551616:=jB _ (by omega)
 refine aoI hm ⟨_,rfl,aoG (a:=⟨a.a,b.length,a.c⟩) rd rfl b8 hl fun a2 ob h1 gl k1=>⟨⟨_,_,_⟩,rfl,?_⟩⟩
 have gn:a2.n=wn b.length:=by have:=gl.len;rw [bA,BZ]at this;omega
 refine Mn (s6:=a2) (fun p s5 s6 s7 h2=>∃m:Nat,m≤wn b.length∧p=wn b.length-m∧s5=((xQ (Ra df b.length) b m:Nat):Int)∧a2=s6∧s7=(m:Int)∧h1=h2) (wn b.length)
  ⟨0,cP _,rfl,rfl,rfl,rfl,rfl⟩ ?_
 rintro p s5 s6 s7 g h2 ⟨m,hm,rfl,rfl,rfl,rfl,rfl⟩
 unfold O8
 rw [gn]
 refine ca (fun fE=>?_) fun o5=>?_
 ·have hmw:m<wn b.length:=by omega
  obtain⟨c,_,ha,hc⟩:=gl.at (o:=m) (v:=uv (jG b (8*m))) (by rw [bD,B0 hmw];rfl)
  refine⟨⟨by omega,by omega⟩,cW ha ⟨((jG b (8*m):Nat):Int),by rw [bu,cQ];exact hc,?_⟩⟩
  rw [DX (vk (xR _ _) _ _) (uF b8 _)]
  refine aoI (DV (vk (xR _ _) _ _) (uF b8 _)) ⟨_,rfl,wn b.length-(m+1),by omega,m+1,hmw,rfl,by rw [xP],rfl,by rw [bU (by omega) (by omega)];rfl,rfl⟩
 ·obtain rfl:m=wn b.length:=by omega
  exact hR h1 k1
end
def afd(b:OA)(o:Int)(h:Hp)(R:RP):Prop:=bq PG 144 #[vp b,vi 0] h fun r p=>∃e:OA,r=vp e∧bq PG 186 #[vp b,vp e,vi 6] p fun r i=>∃j:Bool,r=vb j∧bX (!j) (R ((vt #[vi (-1),vi 31]:Value)) i) (bq PG 187 #[vp e,vi 6] i fun r q=>r=vt #[]∧bq PG 186 #[vp b,vp e,vi 5] q fun r f=>∃k:Bool,r=vb k∧bX (!k) (R ((vt #[vi (-1),vi 31]:Value)) f) (bE b fun s=>∃d:Sl,cell f (s.add 2)=some (.slice d.a d.n d.c)∧gi (f.push (.cells #[vu o,.slice none 0 0,vi 4,vi 0,vi 0,vi 1,vi 0] 221)) fun l=>gi (l.push (.cells #[vp (some (nb f))] 222)) fun t=>im 222 1 8 #[vp none] d.a d.n d.c (some (nb l)) 1 t fun u v w x=>bE b fun y=>St x (y.add 2) (.slice u v w) fun m=>bE b fun z=>∃g:Sl,cell m (z.add 2)=some (.slice g.a g.n g.c)∧R ((vt #[vi (wrap .i64 ((g.n:Int)-(1:Int))),vi 0]:Value)) m))
theorem Yk {a0:OA}{a1:Int}{h:Hp}{R:RP}(hF:afd a0 a1 h R):bq PG 142 #[vp a0,vu a1] h R:=iY (lv:=kw) Tryz.func142 hF
def pt(m:Nat):LN:=if m=4 then [0,1,5,6,7]else if m=9 then [0,1,5,6,8]else if m=18 then [0,1,5,6,8,9,10]else if m=25 then [0,5,6,11]else []
def Yg(J:Nat→OA→Int→Addr→Sl→Int→Hp→Prop):Nat→LV→Hp→Prop:=IL 149 [(0,.p),(1,.i .i64),(5,.a),(6,.l),(8,.i .i64)] J
def JE(J1:Nat→OA→Int→Addr→Sl→Int→Hp→Prop)(n1:Nat)(a:OA)(b:Int)(c:Addr)(d:Sl)(e:Int)(h:Hp)(R:RP):Prop:=∃m,m<n1∧J1 m a b c d (wrap .i64 (e+(1:Int))) h
def JD(J2:Nat→OA→Int→Addr→Sl→Int→Hp→Prop)(n2:Nat)(a:OA)(b:Int)(c:Addr)(d:Sl)(e:Int)(h:Hp)(R:RP):Prop:=∃m,m<n2∧J2 m a b c d (wrap .i64 (e+(1:Int))) h
def JC(J2:Nat→OA→Int→Addr→Sl→Int→Hp→Prop)(n2:Nat)(d:OA)(e:Int)(f:Addr)(b:Sl)(g:Int)(i:OA)(h:Hp)(R:RP):Prop:=dO (kJ PG fN pt (sub [1,1,1,1,0,1,0,0,1,0,0,1,1,1,1,1,1,0,0] (bd Tryz.f144))) (dW PG fN pt [1,1,1,1,0,1,0,0,1,0,0,1,1,1,1,1,1,0] (bd Tryz.f144) [sS (Yg J2) n2] (eJ PG Tryz.f144 [] R)) [(0,vp d),(1,vi e),(5,vp (some f)),(6,.slice b.a b.n b.c),(8,vi g),(9,vp i),(10,vi 0)] 149 h
def JB(J4:Nat→OA→Addr→Sl→Int→Hp→Prop)(n4:Nat)(a:OA)(b:Addr)(c:Sl)(d:Int)(h:Hp)(R:RP):Prop:=∃m,m<n4∧J4 m a b c (wrap .i64 (d+(1:Int))) h
abbrev Yi(R:RP)(a:OA)(b:Int)(c:Addr)(s6a:OA)(s6n s6c:Nat)(d:Int)(e:Hp):Prop:=dO (kJ PG fN pt (sub [1,1,1,1,0,1,0,0] (bd Tryz.f144))) (dW PG fN pt [1,1,1,1,0,1,0] (bd Tryz.f144) [] (eJ PG Tryz.f144 [] R)) [(0,vp a),(1,vi b),(5,vp (some c)),(6,.slice s6a s6n s6c),(8,vi d)] 149 e
def Pm(J1:Nat→OA→Int→Addr→Sl→Int→Hp→Prop)(n1:Nat)(d:OA)(l:Int)(j:Addr)(e:Sl)(b:Int)(g:Nat→Value)(h:Hp)(R:RP):Prop:=bE d fun p=>∃k:Sl,cell h (p.add 3)=some (.slice k.a k.n k.c)∧bX (decide (b<(k.n:Int))) (bE d fun q=>∃f:Sl,cell h (q.add 3)=some (.slice f.a f.n f.c)∧(0≤b∧b<(f.n:Int))∧bE f.a fun s=>∃m:Int,cell h (s.add (b.toNat*1))=some (vi m)∧bX (decide (m>(0:Int))) (bE d fun t=>∃i:Sl,cell h (t.add 3)=some (.slice i.a i.n i.c)∧(0≤b∧b<(i.n:Int))∧bE i.a fun u=>∃o:Int,cell h (u.add (b.toNat*1))=some (vi o)∧bq PG 187 #[vp (some j),vi o] h fun r v=>r=vt #[]∧JE J1 n1 d l j e b v R) (JE J1 n1 d l j e b h R)) (Yi R d l j e.a e.n e.c 0 h)
abbrev aiE(R:RP)(a:OA)(b:Int)(c:Addr)(s6a:OA)(s6n s6c:Nat)(d:Int)(e:Hp):Prop:=dO (kJ PG fN pt (sub [1,1,1,0,1,0,0] (bd Tryz.f144))) (dW PG fN pt [1,1,1,0,1,0] (bd Tryz.f144) [] (eJ PG Tryz.f144 [] R)) [(0,vp a),(1,vi b),(5,vp (some c)),(6,.slice s6a s6n s6c),(7,vi d)] 149 e
theorem MB {R:RP}{s0:OA}{s1:Int}{s5:Addr}{s6:Sl}{s7:Int}{h0:Hp}(J:Nat→OA→Int→Addr→Sl→Int→Hp→Prop)(n0:Nat)(hi:J n0 s0 s1 s5 s6 s7 h0)(hr:∀n s0 s1 s5 s6 s7 g h,J n s0 s1 s5 s6 s7 h→Pm  J n s0 s1 s5 s6 s7 g h R):aiE R s0 s1 s5 s6.a s6.n s6.c s7 h0:=iz (l:=[(0,.p),(1,.i .i64),(5,.a),(6,.l),(7,.i .i64)]) (J:=J) (n0:=n0) (s0,s1,s5,s6,s7,()) hi (fun n s0 s1 s5 s6 s7 g h=>Pm  J n s0 s1 s5 s6 s7 g h R) hr
def Pk(J2:Nat→OA→Int→Addr→Sl→Int→Hp→Prop)(n2:Nat)(i:OA)(j:Int)(e:Addr)(b:Sl)(f:Int)(g:Nat→Value)(h:Hp)(R:RP):Prop:=bE i fun v=>∃l:Sl,cell h (v.add 2)=some (.slice l.a l.n l.c)∧bX (decide (f<(l.n:Int))) (bE i fun w=>∃k:Sl,cell h (w.add 2)=some (.slice k.a k.n k.c)∧(0≤f∧f<(k.n:Int))∧bE k.a fun x=>∃d:OA,cell h (x.add (f.toNat*1))=some (vp d)∧bE d fun y=>∃o:Int,cell h (y.add 5)=some (vi o)∧bE d fun z=>∃p:Int,cell h (z.add 6)=some (vi p)∧bX ((wrap .i64 (o+p))==(0:Int)) (JD J2 n2 i j e b f h R) (bq PG 187 #[vp (some e),vi 6] h fun r q=>r=vt #[]∧bE d fun A=>∃s:Int,cell q (A.add 2)=some (vi s)∧bq PG 187 #[vp (some e),vi (wrap .i64 ((1:Int)+s))] q fun r m=>r=vt #[]∧bE d fun B=>∃t:Int,cell m (B.add 3)=some (vi t)∧bX (decide (t>(0:Int))) (bE d fun C=>∃u:Int,cell m (C.add 3)=some (vi u)∧bq PG 187 #[vp (some e),vi (wrap .i64 ((1:Int)+u))] m fun r D=>r=vt #[]∧JC J2 n2 i j e b f d D R) (JC J2 n2 i j e b f d m R))) ((0≤j∧j<(b.n:Int))∧bE b.a fun E=>St h (E.add (j.toNat*1)) (vb true) fun F=>dO (kJ PG fN pt (sub [1,1,1,1,1,1,0,1,0,0] (bd Tryz.f144))) (dW PG fN pt [1,1,1,1,1,1,0,1,0] (bd Tryz.f144) [] (eJ PG Tryz.f144 [] R)) [(0,vp i),(5,vp (some e)),(6,.slice b.a b.n b.c),(11,vi 1)] 149 F)
theorem MA {R:RP}{s0:OA}{s1:Int}{s5:Addr}{s6:Sl}{s8:Int}{h0:Hp}(J:Nat→OA→Int→Addr→Sl→Int→Hp→Prop)(n0:Nat)(hi:J n0 s0 s1 s5 s6 s8 h0)(hr:∀n s0 s1 s5 s6 s8 g h,J n s0 s1 s5 s6 s8 h→Pk  J n s0 s1 s5 s6 s8 g h R):Yi R s0 s1 s5 s6.a s6.n s6.c s8 h0:=iz (l:=[(0,.p),(1,.i .i64),(5,.a),(6,.l),(8,.i .i64)]) (J:=J) (n0:=n0) (s0,s1,s5,s6,s8,()) hi (fun n s0 s1 s5 s6 s8 g h=>Pk  J n s0 s1 s5 s6 s8 g h R) hr
def Pj(J2:Nat→OA→Int→Addr→Sl→Int→Hp→Prop)(n2:Nat)(J3:Nat→OA→Int→Addr→Sl→Int→OA→Int→Hp→Prop)(n3:Nat)(s:OA)(t:Int)(i:Addr)(j:Sl)(u:Int)(k:OA)(b:Int)(g:Nat→Value)(h:Hp)(R:RP):Prop:=bE k fun w=>∃l:Sl,cell h (w.add 1)=some (.slice l.a l.n l.c)∧bX (decide (b<(l.n:Int))) (bq PG 187 #[vp (some i),vi 7] h fun r p=>r=vt #[]∧bE k fun x=>∃e:Sl,cell p (x.add 1)=some (.slice e.a e.n e.c)∧(0≤b∧b<(e.n:Int))∧bE e.a fun y=>∃d:Sl,cell p ((y.add (b.toNat*5)).add 1)=some (.slice d.a d.n d.c)∧bq PG 189 #[.slice d.a d.n d.c] p fun r z=>∃v:Int,r=vi v∧bq PG 187 #[vp (some i),vi v] z fun r q=>r=vt #[]∧bE k fun A=>∃f:Sl,cell q (A.add 1)=some (.slice f.a f.n f.c)∧(0≤b∧b<(f.n:Int))∧bE f.a fun B=>∃o:Int,cell q ((B.add (b.toNat*5)).add 2)=some (vi o)∧(0≤o∧o<(j.n:Int))∧bE j.a fun C=>St q (C.add (o.toNat*1)) (vb true) fun D=>∃m,m<n3∧J3 m s t i j u k (wrap .i64 (b+(1:Int))) D) (JD J2 n2 s t i j u h R)
abbrev aiD(J2:Nat→OA→Int→Addr→Sl→Int→Hp→Prop)(n2:Nat)(R:RP)(a:OA)(b:Int)(c:Addr)(s6a:OA)(s6n s6c:Nat)(d:Int)(e:OA)(f:Int)(g:Hp):Prop:=dO (kJ PG fN pt (sub [1,1,1,1,0,1,0,0,1,0,0,1,1,1,1,1,1,0,0] (bd Tryz.f144))) (dW PG fN pt [1,1,1,1,0,1,0,0,1,0,0,1,1,1,1,1,1,0] (bd Tryz.f144) [sS (Yg J2) n2] (eJ PG Tryz.f144 [] R)) [(0,vp a),(1,vi b),(5,vp (some c)),(6,.slice s6a s6n s6c),(8,vi d),(9,vp e),(10,vi f)] 149 g
theorem Mz {J2:Nat→OA→Int→Addr→Sl→Int→Hp→Prop}{n2:Nat}{R:RP}{s0:OA}{s1:Int}{s5:Addr}{s6:Sl}{s8:Int}{s9:OA}{oh:Int}{h0:Hp}(J:Nat→OA→Int→Addr→Sl→Int→OA→Int→Hp→Prop)(n0:Nat)(hi:J n0 s0 s1 s5 s6 s8 s9 oh h0)(hr:∀n s0 s1 s5 s6 s8 s9 oh g h,J n s0 s1 s5 s6 s8 s9 oh h→Pj J2 n2 J n s0 s1 s5 s6 s8 s9 oh g h R):aiD J2 n2 R s0 s1 s5 s6.a s6.n s6.c s8 s9 oh h0:=iz (l:=[(0,.p),(1,.i .i64),(5,.a),(6,.l),(8,.i .i64),(9,.p),(10,.i .i64)]) (J:=J) (n0:=n0) (s0,s1,s5,s6,s8,s9,oh,()) hi (fun n s0 s1 s5 s6 s8 s9 oh g h=>Pj J2 n2 J n s0 s1 s5 s6 s8 s9 oh g h R) hr
def Pi(J4:Nat→OA→Addr→Sl→Int→Hp→Prop)(n4:Nat)(i:OA)(f:Addr)(d:Sl)(b:Int)(g:Nat→Value)(h:Hp)(R:RP):Prop:=bX (decide (b<(d.n:Int))) ((0≤b∧b<(d.n:Int))∧bE d.a fun l=>∃j:Bool,cell h (l.add (b.toNat*1))=some (vb j)∧bX j (bE i fun m=>∃e:Sl,cell h (m.add 1)=some (.slice e.a e.n e.c)∧(0≤b∧b<(e.n:Int))∧bE e.a fun o=>∃k:Int,cell h (o.add (b.toNat*2))=some (vi k)∧bq PG 187 #[vp (some f),vi k] h fun r p=>r=vt #[]∧JB J4 n4 i f d b p R) (JB J4 n4 i f d b h R)) (R ((vp (some f):Value)) h)
abbrev aiC(R:RP)(a:OA)(b:Addr)(s6a:OA)(s6n s6c:Nat)(c:Int)(d:Hp):Prop:=dO (kJ PG fN pt (sub [1,1,1,1,1,1,0,1,0,0] (bd Tryz.f144))) (dW PG fN pt [1,1,1,1,1,1,0,1,0] (bd Tryz.f144) [] (eJ PG Tryz.f144 [] R)) [(0,vp a),(5,vp (some b)),(6,.slice s6a s6n s6c),(11,vi c)] 149 d
theorem My {R:RP}{s0:OA}{s5:Addr}{s6:Sl}{pc:Int}{h0:Hp}(J:Nat→OA→Addr→Sl→Int→Hp→Prop)(n0:Nat)(hi:J n0 s0 s5 s6 pc h0)(hr:∀n s0 s5 s6 pc g h,J n s0 s5 s6 pc h→Pi  J n s0 s5 s6 pc g h R):aiC R s0 s5 s6.a s6.n s6.c pc h0:=iz (l:=[(0,.p),(5,.a),(6,.l),(11,.i .i64)]) (J:=J) (n0:=n0) (s0,s5,s6,pc,()) hi (fun n s0 s5 s6 pc g h=>Pi  J n s0 s5 s6 pc g h R) hr
def afb(e:OA)(f:Int)(h:Hp)(R:RP):Prop:=gi (h.push (.cells #[vi 1,vi 0] 226)) fun d=>bE e fun g=>∃b:Sl,cell d (g.add 1)=some (.slice b.a b.n b.c)∧(0≤(b.n:Int)∧(b.n:Int)≤(b.n:Int))∧(b.n:Int)<2 ^ 62∧(1:Nat)*(b.n:Int)≤2 ^ 48∧gi (d.push (.cells (ja #[vb false] ((b.n:Int).toNat*1)) 4)) fun i=>dO (kJ PG fN pt (sub [1,1,1,0,1,0,0] (bd Tryz.f144))) (dW PG fN pt [1,1,1,0,1,0] (bd Tryz.f144) [] (eJ PG Tryz.f144 [] R)) [(0,vp e),(1,vi f),(5,vp (some (nb h))),(6,.slice (some (nb d)) ((b.n:Int).toNat) ((b.n:Int).toNat)),(7,vi 0)] 149 i
theorem Yh {a0:OA}{a1:Int}{h:Hp}{R:RP}(hF:afb a0 a1 h R):bq PG 144 #[vp a0,vi a1] h R:=iY (lv:=pt) Tryz.func144 hF
def Jz  (c a:OA) (d:Bool) (h:Hp) (R:RP):Prop:=bX d (bE a fun e=>∃b:Int,cell h (e.add 2)=some (vi b)∧(2:Int)≠0∧bq PG 191 #[vp c,vp a,vi (wrap .i64 (Int.tdiv b (2:Int)))] h fun r f=>r=vt #[]∧R (vi 0:Value) f) (R (vi 0:Value) h)
def ae8(m b:OA)(l:Sl)(h:Hp)(R:RP):Prop:=bq PG 154 #[vp b] h fun r u=>∃v:Bool,r=vb v∧bq PG 150 #[vp b,.slice l.a l.n l.c] u fun r j=>∃d:Int,∃o:Bool,r=vt #[vi d,vb o]∧bX (!o) (R (vi 63:Value) j) (bE b fun w=>∃e:Sl,cell j (w.add 1)=some (.slice e.a e.n e.c)∧(0≤(0:Int)∧(0:Int)≤(e.n:Int))∧(e.n:Int)<2 ^ 62∧(56:Nat)*(e.n:Int)≤2 ^ 48∧gi (j.push (.cells (ja #[vu 0,.slice none 0 0,vi 0,vu 0,vu 0] ((e.n:Int).toNat*5)) 238)) fun p=>bE b fun y=>∃g:Sl,cell p (y.add 1)=some (.slice g.a g.n g.c)∧(0≤d∧d≤(g.c:Int))∧(0≤(0:Int)∧(0:Int)≤d)∧im 238 5 56 #[vu 0,.slice none 0 0,vi 0,vu 0,vu 0] (some (nb j)) ((0:Int).toNat) ((e.n:Int).toNat) (if g.c=(0:Int).toNat then g.a else Option.map (fun x=>x.add ((0:Int).toNat*5)) g.a) (d.toNat-(0:Int).toNat) p fun z A B q=>bE b fun C=>∃f:Sl,cell q (C.add 1)=some (.slice f.a f.n f.c)∧(0≤(wrap .i64 (d+(1:Int)))∧(wrap .i64 (d+(1:Int)))≤(f.n:Int))∧im 238 5 56 #[vu 0,.slice none 0 0,vi 0,vu 0,vu 0] z A B (if f.c=(wrap .i64 (d+(1:Int))).toNat then f.a else Option.map (fun x=>x.add ((wrap .i64 (d+(1:Int))).toNat*5)) f.a) (f.n-(wrap .i64 (d+(1:Int))).toNat) q fun D E F G=>bE b fun H=>St G (H.add 1) (.slice D E F) fun i=>bE b fun I=>∃s:Int,cell i (I.add 2)=some (vi s)∧bX (decide (s>(4:Int))) (bE b fun J=>∃k:Sl,cell i (J.add 1)=some (.slice k.a k.n k.c)∧bE b fun K=>∃t:Int,cell i (K.add 2)=some (vi t)∧Jz  m b (decide ((wrap .i64 ((4:Int)*(k.n:Int)))<t)) i R) (Jz  m b false i R))
theorem Yb {a0 a1:OA}{a2:Sl}{h:Hp}{R:RP}(hF:ae8 a0 a1 a2 h R):bq PG 147 #[vp a0,vp a1,vl a2] h R:=iY (lv:=kw) Tryz.func147 hF
def ae6(t e:OA)(d:Sl)(w B C:Int)(h:Hp)(R:RP):Prop:=bX (decide ((d.n:Int)>(4096:Int))) (R (vt #[vb false,vi 62]:Value) h) (bq PG 154 #[vp e] h fun r W=>∃X:Bool,r=vb X∧bq PG 150 #[vp e,.slice d.a d.n d.c] W fun r y=>∃b:Int,∃D:Bool,r=vt #[vi b,vb D]∧bX D (bE e fun Y=>∃o:Sl,cell y (Y.add 1)=some (.slice o.a o.n o.c)∧(0≤b∧b<(o.n:Int))∧bE o.a fun Z=>St y ((Z.add (b.toNat*5)).add 2) (vi w) fun E=>bE e fun aa=>∃p:Sl,cell E (aa.add 1)=some (.slice p.a p.n p.c)∧(0≤b∧b<(p.n:Int))∧bE p.a fun ab=>St E ((ab.add (b.toNat*5)).add 3) (vu B) fun F=>bE e fun ac=>∃q:Sl,cell F (ac.add 1)=some (.slice q.a q.n q.c)∧(0≤b∧b<(q.n:Int))∧bE q.a fun ad=>St F ((ad.add (b.toNat*5)).add 4) (vu C) fun ae=>R (vt #[vb false,vi 0]:Value) ae) (bq PG 144 #[vp t,vi w] y fun r af=>∃u:OA,r=vp u∧bq PG 189 #[.slice d.a d.n d.c] af fun r ag=>∃G:Int,r=vi G∧bq PG 186 #[vp t,vp u,vi G] ag fun r H=>∃I:Bool,r=vb I∧bX (!I) (R (vt #[vb false,vi 31]:Value) H) (bq PG 189 #[.slice d.a d.n d.c] H fun r ah=>∃J:Int,r=vi J∧bq PG 187 #[vp u,vi J] ah fun r ai=>r=vt #[]∧bq PG 186 #[vp t,vp u,vi 7] ai fun r z=>∃K:Bool,r=vb K∧bX (!K) (R (vt #[vb false,vi 31]:Value) z) (bE e fun aj=>∃L:Int,cell z aj=some (vu L)∧bq PG 192 #[vu L,.slice d.a d.n d.c] z fun r ak=>∃M:Int,r=vu M∧bq PG 106 #[.slice d.a d.n d.c] ak fun r f=>∃l:Sl,r=.slice l.a l.n l.c∧gi (f.push (.cells #[vu 0,.slice none 0 0,vi 0,vu 0,vu 0] 238)) fun al=>St al (nb f) (vu M) fun am=>St am ((nb f).add 1) (.slice l.a l.n l.c) fun an=>St an ((nb f).add 2) (vi w) fun ao=>St ao ((nb f).add 3) (vu B) fun ap=>St ap ((nb f).add 4) (vu C) fun A=>bE e fun aq=>∃g:Sl,cell A (aq.add 1)=some (.slice g.a g.n g.c)∧(0≤(0:Int)∧(0:Int)≤(wrap .i64 ((g.n:Int)+(1:Int))))∧(wrap .i64 ((g.n:Int)+(1:Int)))<2 ^ 62∧(56:Nat)*(wrap .i64 ((g.n:Int)+(1:Int)))≤2 ^ 48∧gi (A.push (.cells (ja #[vu 0,.slice none 0 0,vi 0,vu 0,vu 0] ((wrap .i64 ((g.n:Int)+(1:Int))).toNat*5)) 238)) fun N=>bE e fun ar=>∃j:Sl,cell N (ar.add 1)=some (.slice j.a j.n j.c)∧(0≤b∧b≤(j.c:Int))∧(0≤(0:Int)∧(0:Int)≤b)∧im 238 5 56 #[vu 0,.slice none 0 0,vi 0,vu 0,vu 0] (some (nb A)) ((0:Int).toNat) ((wrap .i64 ((g.n:Int)+(1:Int))).toNat) (if j.c=(0:Int).toNat then j.a else Option.map (fun x=>x.add ((0:Int).toNat*5)) j.a) (b.toNat-(0:Int).toNat) N fun au av aw k=>∃O:Int,cell k (nb f)=some (vu O)∧∃m:Sl,cell k ((nb f).add 1)=some (.slice m.a m.n m.c)∧∃P:Int,cell k ((nb f).add 2)=some (vi P)∧∃Q:Int,cell k ((nb f).add 3)=some (vu Q)∧∃S:Int,cell k ((nb f).add 4)=some (vu S)∧gi (k.push (.cells #[vu O,.slice m.a m.n m.c,vi P,vu Q,vu S] 238)) fun ax=>im 238 5 56 #[vu 0,.slice none 0 0,vi 0,vu 0,vu 0] au av aw (some (nb k)) 1 ax fun ay az aA T=>bE e fun aB=>∃i:Sl,cell T (aB.add 1)=some (.slice i.a i.n i.c)∧(0≤b∧b≤(i.n:Int))∧im 238 5 56 #[vu 0,.slice none 0 0,vi 0,vu 0,vu 0] ay az aA (if i.c=b.toNat then i.a else Option.map (fun x=>x.add (b.toNat*5)) i.a) (i.n-b.toNat) T fun aC aD aE aF=>bE e fun aG=>St aF (aG.add 1) (.slice aC aD aE) fun s=>bE e fun aH=>∃v:Sl,cell s (aH.add 1)=some (.slice v.a v.n v.c)∧bE e fun aI=>∃U:Int,cell s (aI.add 2)=some (vi U)∧bX (decide ((v.n:Int)>U)) (bE e fun aJ=>∃V:Int,cell s (aJ.add 2)=some (vi V)∧bq PG 191 #[vp t,vp e,vi (wrap .i64 ((2:Int)*V))] s fun r aK=>r=vt #[]∧R (vt #[vb true,vi 0]:Value) aK) (R (vt #[vb true,vi 0]:Value) s)))))
theorem X9 {a0 a1:OA}{a2:Sl}{a3 a4 a5:Int}{h:Hp}{R:RP}(hF:ae6 a0 a1 a2 a3 a4 a5 h R):bq PG 149 #[vp a0,vp a1,vl a2,vi a3,vu a4,vu a5] h R:=iY (lv:=kw) Tryz.func149 hF
def Le(m:Nat):LN:=if m=3 then [0,1,6,7,8]else []
def Pc(J1:Nat→OA→Sl→Int→Int→Int→Hp→Prop)(n1:Nat)(f:OA)(e:Sl)(q b d:Int)(g:Nat→Value)(h:Hp)(R:RP):Prop:=bX (decide (b<d)) ((2:Int)≠0∧bE f fun w=>∃k:Sl,cell h (w.add 1)=some (.slice k.a k.n k.c)∧(0≤(wrap .i64 (Int.tdiv (wrap .i64 (b+d)) (2:Int)))∧(wrap .i64 (Int.tdiv (wrap .i64 (b+d)) (2:Int)))<(k.n:Int))∧bE k.a fun x=>∃s:Int,cell h (x.add ((wrap .i64 (Int.tdiv (wrap .i64 (b+d)) (2:Int))).toNat*5))=some (vu s)∧bE f fun y=>∃l:Sl,cell h (y.add 1)=some (.slice l.a l.n l.c)∧(0≤(wrap .i64 (Int.tdiv (wrap .i64 (b+d)) (2:Int)))∧(wrap .i64 (Int.tdiv (wrap .i64 (b+d)) (2:Int)))<(l.n:Int))∧bE l.a fun z=>∃i:Sl,cell h ((z.add ((wrap .i64 (Int.tdiv (wrap .i64 (b+d)) (2:Int))).toNat*5)).add 1)=some (.slice i.a i.n i.c)∧∃t:Bool,bq PG 193 #[vu s,.slice i.a i.n i.c,vu q,.slice e.a e.n e.c] h (fun v h'=>v=(vb t)∧h'=h)∧bX t (∃m,m<n1∧J1 m f e q (wrap .i64 ((wrap .i64 (Int.tdiv (wrap .i64 (b+d)) (2:Int)))+(1:Int))) d h) (∃m,m<n1∧J1 m f e q b (wrap .i64 (Int.tdiv (wrap .i64 (b+d)) (2:Int))) h)) (bE f fun A=>∃p:Sl,cell h (A.add 1)=some (.slice p.a p.n p.c)∧bX (decide (b<(p.n:Int))) (bE f fun B=>∃o:Sl,cell h (B.add 1)=some (.slice o.a o.n o.c)∧(0≤b∧b<(o.n:Int))∧bE o.a fun C=>∃j:Sl,cell h ((C.add (b.toNat*5)).add 1)=some (.slice j.a j.n j.c)∧bq PG 51 #[.slice j.a j.n j.c,.slice e.a e.n e.c] h fun r D=>∃u:Bool,r=vb u∧R (vt #[vi b,vb u]:Value) D) (R (vt #[vi b,vb false]:Value) h))
abbrev aiA(R:RP)(a s1a:OA)(s1n s1c:Nat)(b c d:Int)(e:Hp):Prop:=dO (kJ PG fN Le (sub [1,1,1,0,0,0] (bd Tryz.f150))) (dW PG fN Le [1,1,1,0,0] (bd Tryz.f150) [] (eJ PG Tryz.f150 [] R)) [(0,vp a),(1,.slice s1a s1n s1c),(6,vu b),(7,vi c),(8,vi d)] 70 e
theorem Mu {R:RP}{s0:OA}{s1:Sl}{s6 s7 s8:Int}{h0:Hp}(J:Nat→OA→Sl→Int→Int→Int→Hp→Prop)(n0:Nat)(hi:J n0 s0 s1 s6 s7 s8 h0)(hr:∀n s0 s1 s6 s7 s8 g h,J n s0 s1 s6 s7 s8 h→Pc  J n s0 s1 s6 s7 s8 g h R):aiA R s0 s1.a s1.n s1.c s6 s7 s8 h0:=iz (l:=[(0,.p),(1,.l),(6,.i .u64),(7,.i .i64),(8,.i .i64)]) (J:=J) (n0:=n0) (s0,s1,s6,s7,s8,()) hi (fun n s0 s1 s6 s7 s8 g h=>Pc  J n s0 s1 s6 s7 s8 g h R) hr
def ae5(e:OA)(b:Sl)(h:Hp)(R:RP):Prop:=bE e fun j=>∃f:Int,cell h j=some (vu f)∧bq PG 192 #[vu f,.slice b.a b.n b.c] h fun r g=>∃i:Int,r=vu i∧bE e fun k=>∃d:Sl,cell g (k.add 1)=some (.slice d.a d.n d.c)∧dO (kJ PG fN Le (sub [1,1,1,0,0,0] (bd Tryz.f150))) (dW PG fN Le [1,1,1,0,0] (bd Tryz.f150) [] (eJ PG Tryz.f150 [] R)) [(0,vp e),(1,.slice b.a b.n b.c),(6,vu i),(7,vi 0),(8,vi (d.n:Int))] 70 g
theorem X8 {a0:OA}{a1:Sl}{h:Hp}{R:RP}(hF:ae5 a0 a1 h R):bq PG 150 #[vp a0,vl a1] h R:=iY (lv:=Le) Tryz.func150 hF
def Lc(m:Nat):LN:=if m=5 then [0,1,2,8,9]else []
def Jx(J1:Nat→OA→Int→Int→Sl→Int→Hp→Prop)(n1:Nat)(a:OA)(b c:Int)(d:Sl)(e:Int)(h:Hp)(R:RP):Prop:=∃m,m<n1∧J1 m a b c d (wrap .i64 (e+(1:Int))) h
def Fz(J1:Nat→OA→Int→Int→Sl→Int→Hp→Prop)(n1:Nat)(i:OA)(k l:Int)(b:Sl)(g m:Int)(o:Bool)(h:Hp)(R:RP):Prop:=bX o (R (vt #[vu m,.slice b.a b.n b.c]:Value) h) (bE i fun p=>∃f:Sl,cell h (p.add 1)=some (.slice f.a f.n f.c)∧(0≤g∧g<(f.n:Int))∧bE f.a fun q=>∃d:Sl,cell h ((q.add (g.toNat*5)).add 1)=some (.slice d.a d.n d.c)∧bq PG 106 #[.slice d.a d.n d.c] h fun r j=>∃e:Sl,r=.slice e.a e.n e.c∧gi (j.push (.cells #[.slice e.a e.n e.c] 39)) fun s=>im 39 1 24 #[.slice none 0 0] b.a b.n b.c (some (nb j)) 1 s fun t u v w=>Jx J1 n1 i k l ⟨t,u,v⟩ g w R)
def Jy  (a:OA) (b c:Int) (h:Hp) (R:RP):Prop:=dO (kJ PG fN Lc (sub [1,1,1,0,1,0,0] (bd Tryz.f152))) (dW PG fN Lc [1,1,1,0,1,0] (bd Tryz.f152) [] (eJ PG Tryz.f152 [] R)) [(0,vp a),(1,vu b),(2,vi c),(8,.slice none 0 0),(9,vi 0)] 65 h
def Pb(J1:Nat→OA→Int→Int→Sl→Int→Hp→Prop)(n1:Nat)(e:OA)(k l:Int)(d:Sl)(b:Int)(g:Nat→Value)(h:Hp)(R:RP):Prop:=bE e fun p=>∃m:Sl,cell h (p.add 1)=some (.slice m.a m.n m.c)∧bX (decide (b<(m.n:Int))) (bE e fun q=>∃f:Sl,cell h (q.add 1)=some (.slice f.a f.n f.c)∧(0≤b∧b<(f.n:Int))∧bE f.a fun r=>∃i:Int,cell h (r.add (b.toNat*5))=some (vu i)∧bX (decide (i<k)) (Jx J1 n1 e k l d b h R) (bX (decide ((d.n:Int)≥l)) (bE e fun s=>∃j:Sl,cell h (s.add 1)=some (.slice j.a j.n j.c)∧(0≤(wrap .i64 (b-(1:Int)))∧(wrap .i64 (b-(1:Int)))<(j.n:Int))∧bE j.a fun t=>∃o:Int,cell h (t.add ((wrap .i64 (b-(1:Int))).toNat*5))=some (vu o)∧Fz J1 n1 e k l d b i (i != o) h R) (Fz J1 n1 e k l d b i false h R))) (R (vt #[vu 0,.slice d.a d.n d.c]:Value) h)
abbrev aiz(R:RP)(a:OA)(b c:Int)(s8a:OA)(s8n s8c:Nat)(d:Int)(e:Hp):Prop:=dO (kJ PG fN Lc (sub [1,1,1,0,1,0,0] (bd Tryz.f152))) (dW PG fN Lc [1,1,1,0,1,0] (bd Tryz.f152) [] (eJ PG Tryz.f152 [] R)) [(0,vp a),(1,vu b),(2,vi c),(8,.slice s8a s8n s8c),(9,vi d)] 65 e
theorem Mt {R:RP}{s0:OA}{s1 s2:Int}{s8:Sl}{s9:Int}{h0:Hp}(J:Nat→OA→Int→Int→Sl→Int→Hp→Prop)(n0:Nat)(hi:J n0 s0 s1 s2 s8 s9 h0)(hr:∀n s0 s1 s2 s8 s9 g h,J n s0 s1 s2 s8 s9 h→Pb  J n s0 s1 s2 s8 s9 g h R):aiz R s0 s1 s2 s8.a s8.n s8.c s9 h0:=iz (l:=[(0,.p),(1,.i .u64),(2,.i .i64),(8,.l),(9,.i .i64)]) (J:=J) (n0:=n0) (s0,s1,s2,s8,s9,()) hi (fun n s0 s1 s2 s8 s9 g h=>Pb  J n s0 s1 s2 s8 s9 g h R) hr
def ae3(a:OA)(b c:Int)(h:Hp)(R:RP):Prop:=bX (decide (c<(1:Int))) (Jy  a b (1:Int) h R) (Jy  a b c h R)
theorem X6 {a0:OA}{a1 a2:Int}{h:Hp}{R:RP}(hF:ae3 a0 a1 a2 h R):bq PG 152 #[vp a0,vu a1,vi a2] h R:=iY (lv:=Lc) Tryz.func152 hF
def ae2(f:OA)(h:Hp)(R:RP):Prop:=bE f fun g=>∃e:Sl,cell h (g.add 1)=some (.slice e.a e.n e.c)∧bq PG 152 #[vp f,vu 0,vi (e.n:Int)] h fun r i=>∃j:Int,∃b:Sl,r=vt #[vu j,.slice b.a b.n b.c]∧bq PG 27 #[.slice b.a b.n b.c] i fun r k=>∃d:Sl,r=.slice d.a d.n d.c∧R (.slice d.a d.n d.c:Value) k
theorem X5 {a0:OA}{h:Hp}{R:RP}(hF:ae2 a0 h R):bq PG 153 #[vp a0] h R:=iY (lv:=kw) Tryz.func153 hF
def X4(a:OA)(h:Hp)(R:RP):Prop:=bE a fun i=>∃c:Int,cell h (i.add 3)=some (vi c)∧bX (c==(0:Int)) (R (vb false:Value) h) (bE a fun j=>∃d:Int,cell h (j.add 4)=some (vi d)∧bE a fun e=>gZ h (e.add 4)∧gi (fy h (e.add 4) (vi (wrap .i64 (d+(16:Int))))) fun b=>bE a fun k=>∃f:Int,cell b (k.add 4)=some (vi f)∧bE a fun l=>∃g:Int,cell b (l.add 3)=some (vi g)∧bX (decide (f≥g)) (bE a fun m=>St b (m.add 3) (vi 0) fun n=>bE a fun o=>St n (o.add 4) (vi 0) fun p=>R (vb true:Value) p) (R (vb true:Value) b))
theorem Ms {a0:OA}{h:Hp}{R:RP}(hF:X4 a0 h R):bq PG 154 #[vp a0] h R:=iY (lv:=kw) Tryz.func154 hF
def aeR(f a:OA)(g:Int)(h:Hp)(R:RP):Prop:=bE f fun i=>∃b:Int,cell h i=some (vi b)∧bE a fun j=>∃c:Int,cell h j=some (vi c)∧bE a fun k=>∃d:Int,cell h (k.add 1)=some (vi d)∧∃e:Bool,bq PG 219 #[vi b,vi c,vi d,vi g] h (fun v h'=>v=(vb e)∧h'=h)∧R (vb e:Value) h
theorem XS {a0 a1:OA}{a2:Int}{h:Hp}{R:RP}(hF:aeR a0 a1 a2 h R):bq PG 186 #[vp a0,vp a1,vi a2] h R:=iY (lv:=kw) Tryz.func186 hF
def aeQ(a:OA)(b:Int)(h:Hp)(R:RP):Prop:=bX (decide (b≤(64:Int))) (bE a fun f=>∃c:Int,cell h f=some (vi c)∧bE a fun g=>St h g (vi (wrap .i64 (c+b))) fun i=>R (vt #[]:Value) i) (bE a fun j=>∃d:Int,cell h (j.add 1)=some (vi d)∧bE a fun e=>gZ h (e.add 1)∧gi (fy h (e.add 1) (vi (wrap .i64 ((wrap .i64 (d+b))+(1:Int))))) fun k=>R (vt #[]:Value) k)
theorem XR {a0:OA}{a1:Int}{h:Hp}{R:RP}(hF:aeQ a0 a1 h R):bq PG 187 #[vp a0,vi a1] h R:=iY (lv:=kw) Tryz.func187 hF
def aeP(b:Sl)(h:Hp)(R:RP):Prop:=bq PG 220 #[vi (b.n:Int)] h fun r c=>∃a:Int,r=vi a∧R ((vi (wrap .i64 ((2:Int)+a)):Value)) c
theorem XP {a0:Sl}{h:Hp}{R:RP}(hF:aeP a0 h R):bq PG 189 #[vl a0] h R:=iY (lv:=kw) Tryz.func189 hF
def aeN(a:OA)(d:Int)(h:Hp)(R:RP):Prop:=bq PG 144 #[vp a,vi 0] h fun r e=>∃b:OA,r=vp b∧bq PG 186 #[vp a,vp b,vi d] e fun r f=>∃c:Bool,r=vb c∧R (vb c:Value) f
theorem XN {a0:OA}{a1:Int}{h:Hp}{R:RP}(hF:aeN a0 a1 h R):bq PG 190 #[vp a0,vi a1] h R:=iY (lv:=kw) Tryz.func190 hF
def Jv  (a:OA) (c:Int) (d:Bool) (h:Hp) (R:RP):Prop:=bX d (R (vt #[]:Value) h) (bE a fun e=>∃b:Int,cell h (e.add 2)=some (vi b)∧bE a fun f=>St h (f.add 3) (vi b) fun g=>bE a fun i=>St g (i.add 2) (vi c) fun j=>bE a fun k=>St j (k.add 4) (vi 0) fun l=>R (vt #[]:Value) l)
def aeM(e a:OA)(b:Int)(h:Hp)(R:RP):Prop:=bE a fun f=>∃c:Int,cell h (f.add 3)=some (vi c)∧bX (decide (c>(0:Int))) (Jv  a b true h R) (bq PG 190 #[vp e,vi (wrap .i64 ((1:Int)+b))] h fun r g=>∃d:Bool,r=vb d∧Jv  a b (!d) g R)
theorem XM {a0 a1:OA}{a2:Int}{h:Hp}{R:RP}(hF:aeM a0 a1 a2 h R):bq PG 191 #[vp a0,vp a1,vi a2] h R:=iY (lv:=kw) Tryz.func191 hF
def aeK(e:Int)(b:Sl)(f:Int)(d:Sl)(h:Hp)(R:RP):Prop:=bX (e != f) (R ((vb (decide (e<f)):Value)) h) (bq PG 62 #[.slice b.a b.n b.c,.slice d.a d.n d.c] h fun r i=>∃g:Int,r=vi g∧R ((vb (decide (g<(0:Int))):Value)) i)
theorem XK {a0:Int}{a1:Sl}{a2:Int}{a3:Sl}{h:Hp}{R:RP}(hF:aeK a0 a1 a2 a3 h R):bq PG 193 #[vu a0,vl a1,vu a2,vl a3] h R:=iY (lv:=kw) Tryz.func193 hF
def Jt  (a b c d:Int) (h:Hp) (R:RP):Prop:=R ((vb (decide ((wrap .i64 ((wrap .i64 ((wrap .i64 (b+c))+(1:Int)))+(wrap .i64 ((2:Int)*d))))≤a)):Value)) h
def aeF(b c d a:Int)(h:Hp)(R:RP):Prop:=bX (decide (a≤(64:Int))) (R ((vb (decide ((wrap .i64 ((2:Int)*(wrap .i64 (c+a))))≤(wrap .i64 (b-d)))):Value)) h) (bX (decide (c<(64:Int))) (Jt  b d a (64:Int) h R) (Jt  b d a c h R))
theorem XF {a0 a1 a2 a3:Int}{h:Hp}{R:RP}(hF:aeF a0 a1 a2 a3 h R):bq PG 219 #[vi a0,vi a1,vi a2,vi a3] h R:=iY (lv:=kw) Tryz.func219 hF
abbrev wv(n:Nat):Value:=vi (n:Int)
def lI(e:DE):LV:=[uv e.hs,.slice (sa e.c) e.key.length e.key.length,wv e.val,uv e.a,uv e.b]
theorem gO(e:DE):(lI e).length=5:=rfl
def Iz(t:DT):LV:=[uv t.df,.slice t.sl.a t.sl.n t.sl.c,wv t.bk,wv t.od,wv t.mv,wv t.vw,wv t.hd]
def F6(v:Nat × Nat):LV:=[wv v.1,uv v.2]
theorem D7(v:Nat × Nat):(F6 v).length=2:=rfl
structure TM (h:Hp) (Y:Mem) (i:Nat) (t:DT):Prop where
 loc:Y.loc (8+2*i)=some t.jY
 fM:Y.fM (8+2*i)=Iz t
 es:kO 5 Y (9+2*i) t.sl (t.es.flatMap lI)
 ks:∀e∈t.es,eM h e.c (e.key.map bv)∧¬Y.own e.c
structure TV (t:DT):Prop where
 pw:(t.es.map DE.hk).Pairwise kV
 hs:∀e∈t.es,e.hs=fU t.df e.key∧fK e.key∧e.key.length≤4096
 sd:t.df<18446744073709551616
 ln:t.es.length≤4194304
section
variable {h h' h2:Hp} {Y Y':Mem} {i:Nat} {t:DT} {R:RP} {a c:Sl} {S:Nat→Prop} {key:LN}
theorem TM.eG(x:TM h Y i t)(k:bY S h h')(hS:∀e∈t.es,¬S e.c):TM h' Y i t :=
 ⟨x.loc,x.fM,x.es,fun e he=>⟨bF k (x.ks e he).1 (hS e he),(x.ks e he).2⟩⟩
theorem TM.cI(x:TM h Y i t)(k:bY N h h'):TM h' Y i t:=x.eG k fun _ _ z=>z
theorem TM.cl(x:TM h Y i t)(sp:Sep h Y)(o:Nat):cell h ((ad t.jY).add o)=(Iz t)[o]?:=by rw [sp.FP x.loc,x.fM]
theorem TM.BH(x:TM h Y i t)(sp:Sep h Y):cell h (ad t.jY)=some (uv t.df):=by rw [sp.Zd x.loc,x.fM];rfl
theorem TM.n(x:TM h Y i t):t.sl.n=t.es.length:=by
 have:=x.es.len
 rw [gN gO]at this
 omega
theorem TM.at(x:TM h Y i t)(sp:Sep h Y){j:Nat}{e:DE}(he:t.es[j]?=some e):∃b,Y.loc (9+2*i)=some b∧t.sl.a=some (ad b)∧∀o,o<5→cell h (((ad b).add (j*5)).add o)=(lI e)[o]?:=by
 have yL:=fun o (ho:o<5)=>ml gO t.es j o e he ho
 obtain⟨b,hb,ha,_⟩:=x.es.at sp ((yL 0 (by omega)).trans rfl)
 refine⟨b,hb,ha,fun o ho=>?_⟩
 obtain⟨v,hv⟩:∃v,(lI e)[o]?=some v:=⟨_,br (by rw [gO];exact ho)⟩
 obtain⟨b',fV,_,c⟩:=x.es.at sp ((yL o ho).trans hv)
 rw [hb]at fV
 obtain rfl:=bt fV
 rw [cm,kD,c,hv]
theorem acI {x y:Nat}{k k':LN}(ra:dZ h a.a (k.map bv)) (na:a.n=k.length) (hl:k.length<140737488355328) (rc:dZ h c.a (k'.map bv)) (nc:c.n=k'.length) (hR:R (vb (decide (kV (x,k) (y,k')))) h) :
  bq PG 193 #[uv x,.slice a.a a.n a.c,uv y,.slice c.a c.n c.c] h R:=by
 refine XK ?_
 unfold aeK
 by_cases e:x=y
 ·subst e
  refine cj (bne_self_eq_false _) (agb ra na hl rc nc ⟨_,rfl,?_⟩)
  have:decide (kV (x,k) (x,k'))=decide (i0 k k'<0):=decide_eq_decide.2 (by rw [qZ];simp)
  rw [this]at hR
  exact hR
 ·refine cr (bne_iff_ne.2 (by omega)) ?_
  have:decide (kV (x,k) (y,k'))=decide ((x:Int)<(y:Int)):=decide_eq_decide.2 (by rw [qZ];simp [e])
  rw [this]at hR
  exact hR
structure wY (h:Hp) (Y:Mem) (i:Nat) (h':Hp) (Y':Mem) (t':DT):Prop where
 sp:Sep h' Y'
 rB:ui h Y h' Y'
 off:∀x,x≠8+2*i→x≠9+2*i→Y'.loc x=Y.loc x∧Y'.fM x=Y.fM x
 tm:TM h' Y' i t'
theorem wY.refl(x:TM h Y i t)(sp:Sep h Y):wY h Y i h Y t:=⟨sp,ui.refl _ _,fun _ _ _=>⟨rfl,rfl⟩,x⟩
theorem wY.cI {t':DT}(u:wY h Y i h' Y' t')(k:bY N h' h2):wY h Y i h2 Y' t':=⟨u.sp.cI k,u.rB.trans (ui.pm k),u.off,u.tm.cI k⟩
theorem wY.st {t1 t2:DT}{h1:Hp}{Y1:Mem}(u:wY h Y i h1 Y1 t1){o:Nat}{v:Value}{K:Hp→Prop}{p:Addr}(hp:p=(ad t1.jY).add o) (ho:o<7) (e:Iz t2=(Iz t1).set o v) (eb:t2.jY=t1.jY) (ee:t2.es=t1.es) (esl:t2.sl=t1.sl)
  (hK:∀h2 Y2,wY h Y i h2 Y2 t2→K h2):gZ h1 p∧gi (fy h1 p v) K:=by
 subst hp
 refine u.sp.st u.tm.loc (cm _ _) (by rw [u.tm.fM];exact ho) fun h2 s2 c2=>hK h2 _ ⟨s2,u.rB.trans c2,fun x h1 h2=>?_,⟨?_,?_,?_,fun z hz=>?_⟩⟩
 ·rw [Mem.fR _ _ _ h1,Mem.gr _ _ _ h1]
  exact u.off x h1 h2
 ·rw [Mem.gM,eb]
 ·rw [Mem.jT,u.tm.fM,e]
 ·rw [ee,esl]
  exact u.tm.es.oR (by omega)
 ·rw [ee]at hz
  have hk:=u.tm.ks z hz
  refine⟨bF c2.1 hk.1 hk.2,fun ho=>?_⟩
  rcases c2.2 _ ho with h|h
  ·exact hk.2 h
  ·have:=eE hk.1;omega
theorem YW(x:TM h Y i t)(sp:Sep h Y)(hb:t.od<4611686018427387904∧t.mv<4611686018427387904)
  (hR:∀h' Y' o m,wY h Y i h' Y' {t with od:=o,mv:=m}→(t.bk,o,m)=tM (t.bk,t.od,t.mv)→R (vb (!decide (t.od=0))) h') :
  bq PG 154 #[vp (sa t.jY)] h R:=by
 refine Ms ?_
 unfold X4
 refine bw ⟨_,(x.cl sp 3).trans rfl,?_⟩
 by_cases h0:t.od=0
 ·refine cr (by rw [h0];rfl) ?_
  have:=hR h Y t.od t.mv (wY.refl x sp) (by unfold tM;rw [if_pos h0])
  rw [decide_eq_true h0]at this
  exact this
 ·rw [decide_eq_false h0]at hR
  refine cj (beq_eq_false_iff_ne.2 (by omega)) (bw ⟨_,(x.cl sp 4).trans rfl,bw ?_⟩)
  have e1:wrap .i64 ((t.mv:Int)+(16:Int))=((t.mv+16:Nat):Int):=by rw [bU (by omega) (by omega)];rfl
  rw [e1]
  refine(wY.refl x sp).st (t2:={t with mv:=t.mv+16}) rfl (by omega) rfl rfl rfl rfl fun h1 Y1 u1=>bw ⟨_,(u1.tm.cl u1.sp 4).trans rfl,bw ⟨_,(u1.tm.cl u1.sp 3).trans rfl,?_⟩⟩
  refine ca (fun o5=>?_) fun fE=>?_
  ·refine bw (u1.st (t2:={t with od:=0,mv:=t.mv+16}) rfl (by omega) rfl rfl rfl rfl fun h2 Y2 u2=>bw (u2.st (t2:={t with od:=0,mv:=0}) rfl (by omega) rfl rfl rfl rfl fun h3 Y3 u3=>hR h3 Y3 0 0 u3 ?_))
   unfold tM
   have o5:(t.od:Int)≤((t.mv+16:Nat):Int):=o5
   rw [if_neg h0,if_pos (by show t.od≤t.mv+16;omega)]
  ·refine hR h1 Y1 t.od (t.mv+16) u1 ?_
   unfold tM
   have fE:¬(t.od:Int)≤((t.mv+16:Nat):Int):=fE
   rw [if_neg h0,if_neg (by show ¬t.od≤t.mv+16;omega)]
theorem aiZ {cb S B z:Nat}(rc:eM h cb [wv S,wv B])(hz:S+B+z<4611686018427387904)(hR:∀h',eM h' cb [wv (S+yj z),wv (B+ym z)]→bY (fun b=>b=cb) h h'→R (vt #[]) h') :
  bq PG 187 #[vp (sa cb),vi (z:Nat)] h R:=by
 refine XR ?_
 unfold aeQ
 unfold yj ym at hR
 refine ca (fun uc=>?_) fun Ue=>?_
 ·rw [if_pos (by omega),if_pos (by omega)]at hR
  refine bw ⟨_,(bS rc 0).trans rfl,bw ?_⟩
  rw [bU (by omega) (by omega)]
  exact eu rc (i:=0) rfl (by simp) fun h1 r1 k1=>hR h1 r1 k1
 ·rw [if_neg (by omega),if_neg (by omega)]at hR
  refine bw ⟨_,ia rc rfl,bw ?_⟩
  rw [bU (x:=(B:Int)+(z:Nat)) (by omega) (by omega),bU (by omega) (by omega)]
  exact eu rc (i:=1) (cm _ _) (by simp) fun h1 r1 k1=>hR h1 r1 k1
theorem aoF {L S B z:Nat}(hL:L≤1048576)(hb:S+B+z<1152921504606846976)(hR:R (vb (decide (iP L S B z))) h):bq PG 219 #[vi (L:Nat),vi (S:Nat),vi (B:Nat),vi (z:Nat)] h R:=by
 refine XF ?_
 unfold aeF
 unfold iP at hR
 refine ca (fun uc=>?_) fun Ue=>?_
 ·rw [bU (x:=(S:Int)+(z:Nat)) (by omega) (by omega),bU (x:=(2:Int)*_) (by omega) (by omega),bU (x:=(L:Int)-(B:Nat)) (by omega) (by omega)]
  have e:decide (if z≤64 then 2*(S+z)≤L-B∧B≤L else B+z+1+2*max S 64≤L)=decide ((2:Int)*((S:Int)+(z:Nat))≤(L:Int)-(B:Nat)):=decide_eq_decide.2 (by rw [if_pos (by omega)];omega)
  rw [e]at hR
  exact hR
 ·have k1:∀m:Nat,m=max S 64→Jt (L:Nat) (B:Nat) (z:Nat) (m:Nat) h R:=fun m hm=>by
   unfold Jt
   rw [bU (x:=(B:Int)+(z:Nat)) (by omega) (by omega),bU (x:=(B:Int)+(z:Nat)+1) (by omega) (by omega),bU (x:=(2:Int)*_) (by omega) (by omega),bU (by omega) (by omega)]
   have e:decide (if z≤64 then 2*(S+z)≤L-B∧B≤L else B+z+1+2*max S 64≤L)=decide ((B:Int)+(z:Nat)+1+(2:Int)*(m:Int)≤(L:Int)):=decide_eq_decide.2 (by rw [if_neg (by omega)];omega)
   rw [e]at hR
   exact hR
  exact ca (fun fE=>k1 64 (by omega)) fun o5=>k1 S (by omega)
theorem Y6 {n:Nat}(hn:a.n=n)(hl:n<100000000)(hR:R (vi (2+dH n:Nat)) h):bq PG 189 #[.slice a.a a.n a.c] h R:=by
 refine XP ?_
 unfold aeP
 rw [hn]
 refine Sf hl ⟨_,rfl,?_⟩
 rw [bU (by unfold dH;omega) (by unfold dH;omega)]
 exact hR
theorem RO(x:TM h Y i t)(v:TV t)(sp:Sep h Y)(ra:dZ h a.a (key.map bv)) (na:a.n=key.length) (b8:fK key) (hl:key.length≤140737488351232)
  (hR:∀h',bY N h h'→R (vt #[vi (j0 t.es (fU t.df key,key):Nat),vb (iB t.es (fU t.df key,key))]) h') :
  bq PG 150 #[vp (sa t.jY),.slice a.a a.n a.c] h R:=by
 have hln:=v.ln
 refine X8 ?_
 unfold ae5
 refine bw ⟨_,x.BH sp,afI ra na b8 hl v.sd fun h1 k1=>⟨_,rfl,?_⟩⟩
 have x1:=x.cI k1
 have TY:=sp.cI k1
 have ra1:=fC k1 ra
 have xn:=x1.n
 generalize hK:(fU t.df key,key)=K at *
 have S6:=fun j e he=>vQ (x:=K) v.pw j e he
 have abf:=QL t.es K
 refine bw ⟨t.sl,(x1.cl TY 1).trans rfl,?_⟩
 refine Mu (s1:=a) (fun m s0 s1 s6 s7 s8 h'=>∃lo hi:Nat,m=hi-lo∧some (ad t.jY)=s0∧a=s1∧s6=(fU t.df key:Int)∧s7=(lo:Int)∧s8=(hi:Int)∧h1=h'∧lo≤j0 t.es K∧j0 t.es K≤hi∧hi≤t.es.length) t.es.length
  ⟨0,t.es.length,rfl,rfl,rfl,rfl,rfl,by rw [xn],rfl,cP _,abf,bH _⟩ ?_
 rintro m s0 s1 s6 s7 s8 g0 h' ⟨lo,hi,rfl,rfl,rfl,rfl,rfl,rfl,rfl,h1',Rb,h3'⟩
 unfold Pc
 refine ca (fun fE=>?_) fun o5=>?_
 ·have em:wrap .i64 (Int.tdiv (wrap .i64 ((lo:Int)+(hi:Nat))) (2:Int))=(((lo+hi) / 2:Nat):Int):=by
   rw [bU (x:=(lo:Int)+(hi:Nat)) (by omega) (by omega),show (lo:Int)+(hi:Int)=((lo+hi:Nat):Int)from rfl,show ((2:Int))=((2:Nat):Int)from rfl,←tC]
   exact bU (by omega) (by omega)
  rw [em]
  generalize hm:(lo+hi) / 2=m
  have Wy:m<t.es.length:=by omega
  have he:t.es[m]?=some (t.es[m]'Wy):=br Wy
  generalize t.es[m]'Wy=e at he
  obtain⟨b,hb,ha,hc⟩:=x1.at TY he
  have WC:=bx he
  have hk:=x1.ks e WC
  have hv:=v.hs e WC
  refine⟨by omega,bw ⟨t.sl,(x1.cl TY 1).trans rfl,(by omega),cW ha ⟨_,by rw [bu];exact(hc 0 (by omega)).trans rfl,bw ⟨t.sl,(x1.cl TY 1).trans rfl,(by omega),cW ha ⟨⟨some (ad e.c),e.key.length,e.key.length⟩,by rw [bu];exact(hc 1 (by omega)).trans rfl,decide (kV (e.hs,e.key) (fU t.df key,key)),?_,?_⟩⟩⟩⟩⟩
  ·exact acI (lq hk.1) rfl (by omega) ra1 na ⟨rfl,rfl⟩
  ·have hs:=S6 m e he
   rw [show (e.hs,e.key)=e.hk from rfl,hK]
   refine ca (fun LI=>?_) fun abg=>?_
   ·have:=hs.2 LI
    exact⟨hi-(m+1),by omega,m+1,hi,rfl,rfl,rfl,rfl,by rw [bU (by omega) (by omega)];rfl,rfl,rfl,this,Rb,h3'⟩
   ·have:¬m<j0 t.es K:=fun h=>abg (hs.1 h)
    exact⟨m-lo,by omega,lo,m,rfl,rfl,rfl,rfl,rfl,rfl,rfl,h1',by omega,by omega⟩
 ·have elo:lo=j0 t.es K:=by omega
  rw [elo]
  refine bw ⟨t.sl,(x1.cl TY 1).trans rfl,ca (fun LI=>?_) fun am6=>?_⟩
  ·have Wy:j0 t.es K<t.es.length:=by omega
   have he:t.es[j0 t.es K]?=some (t.es[j0 t.es K]'Wy):=br Wy
   generalize t.es[j0 t.es K]'Wy=e at he
   obtain⟨b,hb,ha,hc⟩:=x1.at TY he
   have WC:=bx he
   have hk:=x1.ks e WC
   have hv:=v.hs e WC
   refine bw ⟨t.sl,(x1.cl TY 1).trans rfl,(by omega),cW ha ⟨⟨some (ad e.c),e.key.length,e.key.length⟩,by rw [bu];exact(hc 1 (by omega)).trans rfl,?_⟩⟩
   refine aiV (lq hk.1) ra1 rfl na (by omega) ⟨_,rfl,?_⟩
   have et:iB t.es K=(i0 e.key key==0):=by
    unfold iB
    rw [he]
    rw [←hK]
    show decide (e.key=key)=_
    by_cases ek:e.key=key
    ·rw [decide_eq_true ek,ek,vx];rfl
    ·have h2:i0 e.key key≠0:=fun h=>ek (ug h)
     rw [decide_eq_false ek,beq_eq_false_iff_ne.2 h2]
   have:=hR h1 k1
   rw [et]at this
   exact this
  ·have et:iB t.es K=false:=by
    unfold iB
    rw [bV (by omega)]
   have:=hR h1 k1
   rw [et]at this
   exact this
end
structure WM (h:Hp) (Y:Mem) (wb:Nat) (W:DW):Prop where
 sp:Sep h Y
 l1:Y.loc 1=some wb
 c1:Y.fM 1=[wv W.iN,.slice W.vs.a W.vs.n W.vs.c,.slice W.ts.a W.ts.n W.ts.c,.slice W.bs.a W.bs.n W.bs.c]
 va:kO 2 Y 2 W.vs (W.eX.flatMap F6)
 ta:kO 1 Y 3 W.ts (W.de.map fun t=>vp (sa t.jY))
 ba:kO 1 Y 4 W.bs (W.gy.map wv)
 tm:∀i t,W.de[i]?=some t→TM h Y i t
structure WV (W:DW):Prop where
 iN:W.iN≤1048576
 v1:1≤W.eX.length
 mA:W.eX.length≤1000000
 vz:∀v∈W.eX,v.1≤512
 tl:W.de.length≤1000000
 bl:W.gy.length≤1000000
 bz:∀z∈W.gy,z≤512
 es:∀t∈W.de,TV t∧(∀e∈t.es,e.val<W.eX.length)∧t.bk≤4194304∧t.od≤4194304∧t.mv≤8388608∧t.vw<100000000∧t.hd<100000000
theorem WV.ct {W:DW}(v:WV W)(vv:Nat):cT (W.pR vv)≤288230376151711744 :=
 DW.PP v.mA v.vz v.bl v.bz v.tl (fun t ht=>by
  obtain⟨h1,_,h2,h3,_⟩:=v.es t ht
  exact DT.PP h1.ln (fun e he=>(h1.hs e he).2.2) h2 h3) vv
section
variable {h h' h2 g:Hp} {Y:Mem} {i wb cb sb:Nat} {t:DT} {W:DW} {R:RP} {a c:Sl} {S:Nat→Prop} {key A Q F7:LN} {v:Nat}
theorem WM.cI(x:WM h Y wb W)(k:bY N h h'):WM h' Y wb W:=⟨x.sp.cI k,x.l1,x.c1,x.va,x.ta,x.ba,fun i t ht=>(x.tm i t ht).cI k⟩
theorem WM.cl(x:WM h Y wb W)(o:Nat):cell h ((ad wb).add o)=([wv W.iN,.slice W.vs.a W.vs.n W.vs.c,.slice W.ts.a W.ts.n W.ts.c,.slice W.bs.a W.bs.n W.bs.c]:LV)[o]?:=by rw [x.sp.FP x.l1,x.c1]
theorem WM.BH(x:WM h Y wb W):cell h (ad wb)=some (wv W.iN):=by rw [x.sp.Zd x.l1,x.c1];rfl
theorem WM.vn(x:WM h Y wb W):W.vs.n=W.eX.length:=by have:=x.va.len;rw [gN D7]at this;omega
theorem WM.tn(x:WM h Y wb W):W.ts.n=W.de.length:=by have:=x.ta.len;rw [bA]at this;omega
theorem WM.bn(x:WM h Y wb W):W.bs.n=W.gy.length:=by have:=x.ba.len;rw [bA]at this;omega
theorem WM.tat(x:WM h Y wb W)(ht:W.de[i]?=some t):∃b,W.ts.a=some (ad b)∧cell h ((ad b).add i)=some (vp (sa t.jY)):=by
 obtain⟨b,_,ha,hc⟩:=x.ta.at x.sp (o:=i) (v:=vp (sa t.jY)) (by rw [bD,ht];rfl)
 exact⟨b,ha,by rw [cm];exact hc⟩
theorem WM.bat(x:WM h Y wb W){z:Nat}(ht:W.gy[i]?=some z):∃b,Y.loc 4=some b∧W.bs.a=some (ad b)∧cell h ((ad b).add i)=some (wv z):=by
 obtain⟨b,hb,ha,hc⟩:=x.ba.at x.sp (o:=i) (v:=wv z) (by rw [bD,ht];rfl)
 exact⟨b,hb,ha,by rw [cm];exact hc⟩
theorem WM.Qd(x:WM h Y wb W){z:Nat × Nat}(ht:W.eX[i]?=some z):∃b,W.vs.a=some (ad b)∧cell h ((ad b).add (i*2))=some (wv z.1)∧cell h (((ad b).add (i*2)).add 1)=some (uv z.2):=by
 obtain⟨b,hb,ha,hc⟩:=x.va.at x.sp (o:=i*2+0) (v:=wv z.1) (by rw [ml D7 W.eX i 0 z ht (by omega)];rfl)
 obtain⟨b',fV,_,tG⟩:=x.va.at x.sp (o:=i*2+1) (v:=uv z.2) (by rw [ml D7 W.eX i 1 z ht (by omega)];rfl)
 rw [hb]at fV
 obtain rfl:=bt fV
 exact⟨b,ha,by rw [cm];exact hc,by rw [qJ,cm];exact tG⟩
theorem aiY (rc:eM g cb [wv (1+cS A),wv (cB A)]) {z:Nat} (ht:A++z::Q=F7) (hb:cT F7≤288230376151711744) (hR:∀g',eM g' cb [wv (1+cS (A++[z])),wv (cB (A++[z]))]→(A++[z])++Q=F7→bY (fun b=>b=cb) g g'→R (vt #[]) g') :
  bq PG 187 #[vp (sa cb),vi (z:Nat)] g R:=by
 have h1:=afM A
 have h2:=afN A
 have h3:cT A+(z+1)≤cT F7:=by
  rw [←ht,FS]
  have:cT (z::Q)=z+1+cT Q:=by unfold cT;rw [cU,f8]
  omega
 refine aiZ rc (by omega) fun g' rc' k=>hR g' ?_ (by rw [←ht,ce];rfl) k
 rw [ai4,ai6,ai3,ai5,←mL]
 exact rc'
abbrev CJ(n:Nat)(f:Nat→Bool):LV:=(List.range n).map fun k=>vb (f k)
theorem Su {n:Nat}{f f':Nat→Bool}{k:Nat}(h:∀j,f' j=(f j||decide (j=k))):(CJ n f).set k (vb true)=CJ n f':=by
 apply cG
 intro j
 rw [eW]
 by_cases hj:j<n
 ·rw [bD,bD,fL hj]
  by_cases e:k=j
  ·subst e
   rw [if_pos rfl,if_pos (by simpa using hj),dR,h k];simp
  ·rw [if_neg e,dR,dR,h j,decide_eq_false (fun h=>e h.symm),uC]
 ·rw [bV (by simpa using hj:((List.range n).map fun k=>Value.bool (f' k)).length≤j)]
  by_cases e:k=j
  ·rw [if_pos e,if_neg (by simpa using (by omega:¬k<n))]
  ·rw [if_neg e,bV (by simpa using hj)]
theorem Sv(n:Nat)(f:Nat→Bool):(CJ n f).length=n:=by simp
theorem U6 {n k:Nat}(f:Nat→Bool)(hk:k<n):(CJ n f)[k]?=some (vb (f k)):=by rw [bD,fL hk];rfl
def sM(l:List DT)(k:Nat):Bool:=l.any fun t=>t.ib&&t.es.any fun e=>decide (e.val=k)
def zm(l:List DE)(k:Nat):Bool:=l.any fun e=>decide (e.val=k)
theorem Er {l:List DT}{i:Nat}{t:DT}(h:l[i]?=some t)(k:Nat):sM (l.take (i+1)) k=(sM (l.take i) k||(t.ib&&zm t.es k)):=by
 rw [jP,h]
 unfold sM zm
 rw [List.any_append]
 simp
theorem NN {l:List DE}{i:Nat}{e:DE}(h:l[i]?=some e)(k:Nat):zm (l.take (i+1)) k=(zm (l.take i) k||decide (k=e.val)):=by
 rw [jP,h]
 unfold zm
 rw [List.any_append]
 simp [eq_comm]
structure uh (h g:Hp) (cb sb n:Nat) (A:LN) (f:Nat→Bool):Prop where
 k:bY N h g
 rc:eM g cb [wv (1+cS A),wv (cB A)]
 rs:eM g sb (CJ n f)
 c1:h.size≤cb
 s1:h.size≤sb
 ne:cb≠sb
variable {n:Nat} {f:Nat→Bool}
theorem uh.count(x:uh h g cb sb n A f){z:Nat}(ht:A++z::Q=F7)(hb:cT F7≤288230376151711744)(hR:∀g',uh h g' cb sb n (A++[z]) f→(A++[z])++Q=F7→R (vt #[]) g') :
  bq PG 187 #[vp (sa cb),vi (z:Nat)] g R :=
 aiY x.rc ht hb fun g' rc e k=>hR g' ⟨cL x.k k fun b hb=>by have:=x.c1;omega,rc,bF k x.rs fun e=>x.ne e.symm,x.c1,x.s1,x.ne⟩ e
theorem uh.see(x:uh h g cb sb n A f){j:Nat}(hj:j<n){f':Nat→Bool}(hf:∀k,f' k=(f k||decide (k=j))) {p:Addr} (hp:p=(ad sb).add (j*1)) {K:Hp→Prop} (hK:∀g',uh h g' cb sb n A f'→K g'):gZ g p∧gi (fy g p (vb true)) K:=by
 subst hp
 refine eu x.rs (i:=j) (by rw [cQ,cm]) (by rw [Sv];exact hj) fun g' r k=>hK g' ⟨cL x.k k fun b hb=>by have:=x.s1;omega,bF k x.rc x.ne,?_,x.c1,x.s1,x.ne⟩
 rw [←Su hf]
 exact r
def ZB(h:Hp)(W:DW)(cb sb n wb vv:Nat)(F7:LN)(m:Nat)(s0:OA)(s1:Int)(s5:Addr)(s6:Sl)(s8:Int)(g:Hp):Prop :=
 ∃(i:Nat) (A:LN),i≤W.de.length∧m=W.de.length-i∧some (ad wb)=s0∧s1=(vv:Int)∧ad cb=s5∧(⟨some (ad sb),n,n⟩:Sl)=s6∧s8=(i:Int)∧uh h g cb sb n A (sM (W.de.take i))∧A++((W.de.drop i).flatMap DT.pR++W.uO vv)=F7
theorem RN(x:WM h Y wb W)(Du:WV W){vv:Nat}(BG:vv<W.eX.length)(hR:∀cb g,eM g cb [wv (W.S vv),wv (W.B vv)]→h.size≤cb→bY N h g→R (vp (sa cb)) g) :
  bq PG 144 #[vp (sa wb),vi (vv:Nat)] h R:=by
 have Ub:=Du.v1
 have azQ:=Du.mA
 have htl:=Du.tl
 have hbl:=Du.bl
 have hct:=Du.ct vv
 have vn:=x.vn
 generalize amr:W.pR vv=F7 at hct
 refine Yh ?_
 unfold afb
 refine dh fun h1 e1=>?_
 have k1:bY N h h1:=e1▸cF _ _ _
 have z1:h1.size=h.size+1:=by rw [e1];simp
 have r1:eM h1 h.size [vi 1,vi 0]:=e1▸du h #[vi 1,vi 0] _
 clear e1
 rw [show nb h=ad h.size from rfl,show nb h1=ad h1.size from rfl]
 refine bw ⟨W.vs,((x.cI k1).cl 1).trans rfl,(by omega),by omega,by omega,dh fun h2 e2=>?_⟩
 have k2:bY N h1 h2:=e2▸cF _ _ _
 have r2:eM h2 h1.size (CJ W.eX.length fun _=>false):=by
  rw [o6,bu,vn]at e2
  rw [e2]
  have:=du h1 (List.replicate W.eX.length (Value.bool false)).toArray 4
  have e:CJ W.eX.length (fun _=>false)=List.replicate W.eX.length (Value.bool false):=by
   rw [CJ,List.map_const',ul]
  rw [e]
  exact this
 clear e2
 have en:(W.vs.n:Int).toNat=W.eX.length:=by rw [bu,vn]
 rw [en]
 have S0:uh h h2 h.size h1.size W.eX.length [] fun _=>false:=⟨k1.trans k2,bF k2 r1 _root_.id,r2,bH _,k1.1,by omega⟩
 clear r1 r2 k1 k2
 generalize GZ:h.size=cb at *
 generalize hsb:h1.size=sb at *
 generalize hn:W.eX.length=n at *
 have mP:∀g f A,uh h g cb sb n A f→(∀j,f j=W.seen vv j)→A++W.uO vv=F7→dO (kJ PG fN pt (sub [1,1,1,1,1,1,0,1,0,0] (bd Tryz.f144))) (dW PG fN pt [1,1,1,1,1,1,0,1,0] (bd Tryz.f144) [] (eJ PG Tryz.f144 [] R)) [(0,vp (sa wb)),(5,vp (sa cb)),(6,.slice (sa sb) n n),(11,vi 1)] 149 g:=fun g f A s hf ht=>by
  have amN:∀i,i<n→1≤i→((List.range' i (n-i)).filter (W.seen vv)).map (fun i=>(W.eX.getD i (0,0)).1)=(if W.seen vv i then [(W.eX.getD i (0,0)).1]else [])++((List.range' (i+1) (n-(i+1))).filter (W.seen vv)).map (fun i=>(W.eX.getD i (0,0)).1):=fun i hi _=>by
   obtain⟨m,hm⟩:∃m,n-i=m+1:=⟨n-i-1,by omega⟩
   rw [hm,me,eP,show n-(i+1)=m by omega]
   split<;>simp
  refine My (s6:=⟨some (ad sb),n,n⟩) (fun m s0 s5 s6 pc g=>∃(i:Nat) (A:LN),1≤i∧i≤n∧m=n-i∧some (ad wb)=s0∧ad cb=s5∧(⟨some (ad sb),n,n⟩:Sl)=s6∧pc=(i:Int)∧uh h g cb sb n A f∧A++((List.range' i (n-i)).filter (W.seen vv)).map (fun i=>(W.eX.getD i (0,0)).1)=F7) (n-1)
   ⟨1,A,bH _,Ub,rfl,rfl,rfl,rfl,rfl,s,by rw [←ht];unfold DW.uO;rw [hn]⟩ ?_
  rintro m s0 s5 s6 pc g0 g ⟨i,A,hi1,hi,rfl,rfl,rfl,rfl,rfl,s,ht⟩
  unfold Pi
  refine ca (fun fE=>?_) fun o5=>?_
  ·have iZ:i<n:=by
    have:(i:Int)<(n:Int):=fE
    omega
   rw [amN i iZ hi1]at ht
   refine⟨⟨by omega,fE⟩,bw ⟨f i,by rw [bu,cQ,cm,bS s.rs i];exact U6 f iZ,?_⟩⟩
   rw [hf i]
   by_cases hs:W.seen vv i=true
   ·rw [hs]
    rw [if_pos hs]at ht
    have hz:W.eX[i]?=some (W.eX[i]'(by omega)):=br (by omega)
    have hd:W.eX.getD i (0,0)=W.eX[i]'(by omega):=by rw [bB,hz];rfl
    rw [hd]at ht
    generalize W.eX[i]'(by omega)=z at hz ht
    have xg:=x.cI s.k
    obtain⟨b,ha,hc,_⟩:=xg.Qd hz
    refine cr rfl (bw ⟨W.vs,(xg.cl 1).trans rfl,⟨by omega,by rw [vn];exact fE⟩,cW ha ⟨_,by rw [bu];exact hc,s.count (Q:=((List.range' (i+1) (n-(i+1))).filter (W.seen vv)).map fun i=>(W.eX.getD i (0,0)).1) ht hct fun g' s' LB=>⟨rfl,?_⟩⟩⟩)
    unfold JB
    exact⟨n-(i+1),by omega,i+1,A++[z.1],by omega,iZ,rfl,rfl,rfl,rfl,by rw [bU (by omega) (by omega)];rfl,s',LB⟩
   ·rw [if_neg hs,eU]at ht
    rw [qF]at hs
    rw [hs]
    refine cj rfl ?_
    unfold JB
    exact⟨n-(i+1),by omega,i+1,A,by omega,iZ,rfl,rfl,rfl,rfl,by rw [bU (by omega) (by omega)];rfl,s,ht⟩
  ·have:¬(i:Int)<(n:Int):=o5
   obtain rfl:i=n:=by omega
   rw [dD]at ht
   have ht:A=F7:=by simpa using ht
   have rc:=s.rc
   rw [ht,←amr]at rc
   exact hR cb g rc (by omega) s.k
 have de:∀g A,uh h g cb sb n A (fun _=>false)→A++(W.de.flatMap DT.pR++W.uO vv)=F7→dO (kJ PG fN pt (sub [1,1,1,1,0,1,0,0] (bd Tryz.f144))) (dW PG fN pt [1,1,1,1,0,1,0] (bd Tryz.f144) [] (eJ PG Tryz.f144 [] R)) [(0,vp (sa wb)),(1,vi (vv:Nat)),(5,vp (sa cb)),(6,.slice (sa sb) n n),(8,vi 0)] 149 g:=fun g A s ht=>by
  refine MA (s6:=⟨some (ad sb),n,n⟩) (ZB h W cb sb n wb vv F7) W.de.length
   ⟨0,A,cP _,rfl,rfl,rfl,rfl,rfl,rfl,s,ht⟩ ?_
  rintro m s0 s1 s5 s6 s8 g0 g ⟨i,A,hi,rfl,rfl,rfl,rfl,rfl,rfl,s,ht⟩
  have xg:=x.cI s.k
  have tn:=xg.tn
  unfold Pk
  refine bw ⟨W.ts,(xg.cl 2).trans rfl,ca (fun fE=>?_) fun o5=>?_⟩
  ·have iZ:i<W.de.length:=by omega
   have hz:W.de[i]?=some (W.de[i]'iZ):=br iZ
   have WE:=wg hz
   generalize W.de[i]'iZ=t at hz WE
   obtain⟨b,ha,hc⟩:=xg.tat hz
   obtain⟨tv,Fi,b1,b2,b3,b4,b5⟩:=Du.es t (bx hz)
   have xt:=xg.tm i t hz
   have tln:=tv.ln
   rw [WE,cJ,ce]at ht
   refine bw ⟨W.ts,(xg.cl 2).trans rfl,(by omega),cW ha ⟨_,by rw [bu,cQ];exact hc,bw ⟨_,(xt.cl xg.sp 5).trans rfl,bw ⟨_,(xt.cl xg.sp 6).trans rfl,?_⟩⟩⟩⟩
   rw [bU (x:=(t.vw:Int)+(t.hd:Nat)) (by omega) (by omega)]
   by_cases yK:t.ib=true
   ·have iS:t.vw+t.hd≠0:=by unfold DT.ib at yK;exact of_decide_eq_true yK
    have vF:t.pR=6::(1+t.bk)::((if 0<t.od then [1+t.od]else [])++t.es.flatMap DE.pR):=by unfold DT.pR;rw [if_pos yK]
    rw [vF]at ht
    refine cj (beq_eq_false_iff_ne.2 (by omega)) (s.count (z:=6) ht hct fun g1 s1 I9=>⟨rfl,bw ⟨_,(((x.cI s1.k).tm i t hz).cl (x.cI s1.k).sp 2).trans rfl,?_⟩⟩)
    have eb:wrap .i64 ((1:Int)+(t.bk:Nat))=((1+t.bk:Nat):Int):=by rw [bU (by omega) (by omega)];rfl
    rw [eb]
    refine s1.count (z:=1+t.bk) I9 hct fun g2 s2 I8=>⟨rfl,bw ⟨_,(((x.cI s2.k).tm i t hz).cl (x.cI s2.k).sp 3).trans rfl,?_⟩⟩
    have dc:∀g A,uh h g cb sb n A (sM (W.de.take i))→A++(t.es.flatMap DE.pR++((W.de.drop (i+1)).flatMap DT.pR++W.uO vv))=F7→JC (ZB h W cb sb n wb vv F7) (W.de.length-i) (sa wb) (vv:Nat) (ad cb) ⟨some (ad sb),n,n⟩ (i:Nat) (sa t.jY) g R:=fun g A s ht=>by
     unfold JC
     refine Mz (s6:=⟨some (ad sb),n,n⟩) (fun m s0 s1 s5 s6 s8 s9 oh g=>∃(j:Nat) (A:LN),j≤t.es.length∧m=t.es.length-j∧some (ad wb)=s0∧s1=(vv:Int)∧ad cb=s5∧(⟨some (ad sb),n,n⟩:Sl)=s6∧s8=(i:Int)∧some (ad t.jY)=s9∧oh=(j:Int)∧uh h g cb sb n A (fun k=>sM (W.de.take i) k||zm (t.es.take j) k)∧A++((t.es.drop j).flatMap DE.pR++((W.de.drop (i+1)).flatMap DT.pR++W.uO vv))=F7) t.es.length
      ⟨0,A,cP _,rfl,rfl,rfl,rfl,rfl,rfl,rfl,rfl,?_,ht⟩ ?_
     ·have e:(fun k=>sM (W.de.take i) k||zm (t.es.take 0) k)=sM (W.de.take i):=funext fun k=>by
       rw [tt]
       exact uC _
      rw [e]
      exact s
     rintro m s0 s1 s5 s6 s8 s9 oh g0 g ⟨j,A,hj,rfl,rfl,rfl,rfl,rfl,rfl,rfl,rfl,s,ht⟩
     have xg:=x.cI s.k
     have xt:=xg.tm i t hz
     have xn:=xt.n
     unfold Pj
     refine bw ⟨t.sl,(xt.cl xg.sp 1).trans rfl,ca (fun fE=>?_) fun o5=>?_⟩
     ·have nK:j<t.es.length:=by omega
      have he:t.es[j]?=some (t.es[j]'nK):=br nK
      have hde:=wg he
      generalize t.es[j]'nK=e at he hde
      have WC:=bx he
      have hek:=(tv.hs e WC).2.2
      rw [hde,cJ,ce]at ht
      have ht:A++7::((2+dH e.key.length)::((t.es.drop (j+1)).flatMap DE.pR++((W.de.drop (i+1)).flatMap DT.pR++W.uO vv)))=F7:=ht
      have Nu:(0:Int)≤(j:Int)∧(j:Int)<(t.sl.n:Int):=(by omega)
      refine s.count (z:=7) ht hct fun g1 s1 I9=>⟨rfl,?_⟩
      have xg1:=x.cI s1.k
      have xt1:=xg1.tm i t hz
      obtain⟨b,_,ha,hc⟩:=xt1.at xg1.sp he
      refine bw ⟨t.sl,(xt1.cl xg1.sp 1).trans rfl,Nu,cW ha ⟨⟨some (ad e.c),e.key.length,e.key.length⟩,by rw [bu];exact(hc 1 (by omega)).trans rfl,Y6 (n:=e.key.length) rfl (by omega) ⟨_,rfl,?_⟩⟩⟩
      refine s1.count (z:=2+dH e.key.length) I9 hct fun g2 s2 I8=>⟨rfl,?_⟩
      have xg2:=x.cI s2.k
      have xt2:=xg2.tm i t hz
      obtain⟨b',_,AK,tG⟩:=xt2.at xg2.sp he
      have wV:=Fi e WC
      rw [hn]at wV
      refine bw ⟨t.sl,(xt2.cl xg2.sp 1).trans rfl,Nu,cW AK ⟨_,by rw [bu];exact(tG 2 (by omega)).trans rfl,⟨by omega,by show (e.val:Int)<(n:Int);omega⟩,bw (s2.see (f':=fun k=>sM (W.de.take i) k||zm (t.es.take (j+1)) k) wV (fun k=>?_) (by rw [bu]) fun g' s'=>?_)⟩⟩
      ·show _=((sM (W.de.take i) k||zm (t.es.take j) k)||decide (k=e.val))
       rw [NN he,Bool.or_assoc]
      ·exact⟨t.es.length-(j+1),by omega,j+1,_,nK,rfl,rfl,rfl,rfl,rfl,rfl,rfl,by rw [bU (by omega) (by omega)];rfl,s',I8⟩
     ·obtain rfl:j=t.es.length:=by omega
      unfold JD
      rw [gv,iW,eU]at ht
      refine⟨W.de.length-(i+1),by omega,i+1,A,iZ,rfl,rfl,rfl,rfl,rfl,by rw [bU (by omega) (by omega)];rfl,?_,ht⟩
      have e:sM (W.de.take (i+1))=fun k=>sM (W.de.take i) k||zm (t.es.take t.es.length) k:=funext fun k=>by
       rw [Er hz,yK,dE,Bool.true_and]
      rw [e]
      exact s
    by_cases ho:0<t.od
    ·rw [if_pos ho]at I8
     have I8:(A++[6]++[1+t.bk])++(1+t.od)::(t.es.flatMap DE.pR++((W.de.drop (i+1)).flatMap DT.pR++W.uO vv))=F7:=by
      rw [←I8];simp
     have eo:wrap .i64 ((1:Int)+(t.od:Nat))=((1+t.od:Nat):Int):=by rw [bU (by omega) (by omega)];rfl
     refine cr (decide_eq_true (by omega)) (bw ⟨_,(((x.cI s2.k).tm i t hz).cl (x.cI s2.k).sp 3).trans rfl,?_⟩)
     rw [eo]
     exact s2.count (z:=1+t.od) I8 hct fun g3 s3 ht3=>⟨rfl,dc g3 _ s3 ht3⟩
    ·rw [if_neg ho]at I8
     exact cj (decide_eq_false (by omega)) (dc g2 _ s2 I8)
   ·have vF:t.pR=[]:=by unfold DT.pR;rw [if_neg yK]
    have h0:t.vw+t.hd=0:=by unfold DT.ib at yK;simpa using yK
    rw [vF,eU]at ht
    refine cr (beq_iff_eq.2 (by omega)) ?_
    unfold JD
    refine⟨W.de.length-(i+1),by omega,i+1,A,iZ,rfl,rfl,rfl,rfl,rfl,by rw [bU (by omega) (by omega)];rfl,?_,ht⟩
    have:sM (W.de.take (i+1))=sM (W.de.take i):=funext fun k=>by
     rw [Er hz]
     rw [qF]at yK
     rw [yK];simp
    rw [this]
    exact s
  ·obtain rfl:i=W.de.length:=by omega
   rw [gv,iW,eU]at ht
   rw [dE]at s
   refine⟨⟨by omega,by show (vv:Int)<(n:Int);omega⟩,bw (s.see (f':=W.seen vv) BG (fun k=>?_) (by rw [bu]) fun g' s'=>mP g' _ A s' (fun _=>rfl) ht)⟩
   unfold DW.seen sM
   rw [Bool.or_comm]
 refine MB (s6:=⟨some (ad sb),n,n⟩) (fun m s0 s1 s5 s6 s7 g=>∃(i:Nat) (A:LN),i≤W.gy.length∧m=W.gy.length-i∧some (ad wb)=s0∧s1=(vv:Int)∧ad cb=s5∧(⟨some (ad sb),n,n⟩:Sl)=s6∧s7=(i:Int)∧uh h g cb sb n A (fun _=>false)∧A++(((W.gy.drop i).filter fun z=>decide (0<z))++(W.de.flatMap DT.pR++W.uO vv))=F7) W.gy.length
  ⟨0,[],cP _,rfl,rfl,rfl,rfl,rfl,rfl,S0,amr⟩ ?_
 rintro m s0 s1 s5 s6 s7 g0 g ⟨i,A,hi,rfl,rfl,rfl,rfl,rfl,rfl,s,ht⟩
 have xg:=x.cI s.k
 have bn:=xg.bn
 unfold Pm
 refine bw ⟨W.bs,(xg.cl 3).trans rfl,ca (fun fE=>?_) fun o5=>?_⟩
 ·have iZ:i<W.gy.length:=by omega
  have hz:W.gy[i]?=some (W.gy[i]'iZ):=br iZ
  have WE:=wg hz
  generalize W.gy[i]'iZ=z at hz WE
  obtain⟨b,_,ha,hc⟩:=xg.bat hz
  rw [WE,eP]at ht
  have Nu:(0:Int)≤(i:Int)∧(i:Int)<(W.bs.n:Int):=(by omega)
  have tG:cell g ((ad b).add ((i:Int).toNat*1))=some (wv z):=by rw [bu,cQ];exact hc
  refine bw ⟨W.bs,(xg.cl 3).trans rfl,Nu,cW ha ⟨_,tG,ca (fun wW=>?_) fun hnp=>?_⟩⟩
  ·rw [if_pos (decide_eq_true (by omega:0<z))]at ht
   refine bw ⟨W.bs,(xg.cl 3).trans rfl,Nu,cW ha ⟨_,tG,s.count ht hct fun g' s' LB=>⟨rfl,?_⟩⟩⟩
   unfold JE
   exact⟨W.gy.length-(i+1),by omega,i+1,A++[z],iZ,rfl,rfl,rfl,rfl,rfl,by rw [bU (by omega) (by omega)];rfl,s',LB⟩
  ·rw [if_neg (by rw [decide_eq_true_eq];omega)]at ht
   unfold JE
   exact⟨W.gy.length-(i+1),by omega,i+1,A,iZ,rfl,rfl,rfl,rfl,rfl,by rw [bU (by omega) (by omega)];rfl,s,ht⟩
 ·obtain rfl:i=W.gy.length:=by omega
  rw [gv,List.filter_nil,eU]at ht
  exact de g A s ht
end
end Go.Ev
