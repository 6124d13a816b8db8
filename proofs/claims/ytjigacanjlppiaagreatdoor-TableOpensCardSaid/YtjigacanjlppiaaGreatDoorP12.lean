/- The program's table in memory; its reading f. No condition. -/
import Derived.Test.YtjigacanjlppiaaGreatDoorP11
set_option linter.all false
set_option maxRecDepth 1000000
open Go.IntKind (wrap)
namespace Go.Ev
open Go.Proofs
structure Tz (h:Hp) (q:HQ):Prop where
 row:eM h BF (Nt.map fun n=>.int .u8 (n:Nat))
 out:q.bR BF=.out
structure TR (h:Hp) (q:HQ) (s:RS) (nd:List di) (tb hn:Nat) (T:TD) (lo:Nat) (z:Option Nat) (n:Nat):Prop where
 g:Gs h q s nd
 l:ti h q tb hn
 pos:1≤hn
 lt:hn<1000000000
 held:s.bC.getD (hn-1) none=some T.t
 c:gD nd T lo z n
 tz:Tz h q
 hr:∀i∈T.dN,s.da i
structure qA (h:Hp) (q:HQ) (s:RS) (nd:List di) (tb hn:Nat) (T:TD):Prop where
 g:Gs h q s nd
 l:ti h q tb hn
 pos:1≤hn
 lt:hn<1000000000
 held:s.bC.getD (hn-1) none=some T.t
 c:yT nd T
 tz:Tz h q
section
variable {h h' h2:Hp} {q q':HQ} {s:RS} {nd:List di} {m:di} {id tb hn:Nat} {T:TD} {R:RP} {lo n hs:Nat} {z:Option Nat}
theorem Tz.ex(t:Tz h q)(x:Ex h q h' q'):Tz h' q':=⟨bF x.gK t.row fun e=>e t.out,x.out (eE t.row) t.out⟩
theorem Tz.cI(t:Tz h q)(k:bY N h h'):Tz h' q:=⟨bF k t.row _root_.id,t.out⟩
theorem Qy {bC:List (Option Nat)}:∀ {c:List iM},BI nd c 0→(∀x∈c,x.e≠0∧x.k≠0)→(c≠[]→vD nd bC (lL c))→∀i∈iX c,vD nd bC i
 | [],_,_,_=>nofun
 |x::c,s,z,h=>fun i hi=>by
  have hx:vD nd bC x.e:=h (by simp)
  rw [gS]at hi
  rcases ck.1 hi with rfl|hi
  ·exact hx
  rcases ck.1 hi with rfl|hi
  ·exact .next hx s.1.1 (by unfold iM.node;simp) (z x (bQ ..)).2
  refine Qy s.2 (fun y hy=>z y (bJ _ hy)) (fun hc=>.next hx s.1.1 (by unfold iM.node;simp) ?_) i hi
  cases c with
  |nil=>exact absurd rfl hc
  |cons y c=>exact(z y (bJ _ (bQ ..))).1
theorem yT.rch {bC:List (Option Nat)} (c:yT nd T) (h:vD nd bC T.t):∀i∈T.dN,vD nd bC i:=by
 have hn:vD nd bC T.nw.id:=.next h c.g.tn (by simp) (c.g.nz _ T.nU)
 have ho:∀o,T.od=some o→vD nd bC o.id:=fun o ho=>.next h c.g.tn (by simp [TD.qV ho]) (c.g.nz _ (TD.rG ho))
 have he:∀(A:rI) (_:vD nd bC A.id) (_:nd[A.id]?=some ⟨5,A.cs.map lL,[]⟩) (_:∀(i:Nat) (c:List iM),A.cs[i]?=some c→BI nd c 0) (_:∀x∈A.dc,x∈T.dc),∀i∈iX A.dc,vD nd bC i:=fun A hA Jf hs hT i hi=>by
  obtain⟨x,hx,e⟩:=iR.1 hi
  obtain⟨j,d,hd,hxd⟩:=iC hx
  have zz:∀y∈d,y.e≠0∧y.k≠0:=fun y hy=>by
   have DF:=hT y (dY.2 ⟨d,bx hd,hy⟩)
   exact⟨c.g.nz _ (TD.pq DF),c.g.nz _ (TD.EZ DF)⟩
  refine Qy (hs j d hd) zz (fun iS=>.next hA Jf (cy.2 ⟨d,bx hd,rfl⟩) ?_) i (iR.2 ⟨x,hxd,e⟩)
  cases d with
  |nil=>exact absurd rfl iS
  |cons y d=>exact(zz y (bQ ..)).1
 intro i hi
 rcases bI.1 hi with hi|hi
 ·unfold TD.nV at hi
  rcases ck.1 hi with rfl|hi
  ·exact h
  rcases ck.1 hi with rfl|hi
  ·exact hn
  cases e:T.od with
  |none=>rw [e]at hi;cases hi
  |some o =>
   rw [e]at hi
   rw [bM.1 hi];exact ho o e
 ·unfold TD.dc at hi
  rw [iE]at hi
  rcases bI.1 hi with hi|hi
  ·exact he T.nw hn c.g.wn (fun i d hd=>(c.g.sn i d hd).1) (fun x hx=>bW _ hx) i hi
  ·cases e:T.od with
   |none=>rw [TD.zX e]at hi;cases hi
   |some o =>
    rw [TD.iu e]at hi
    exact he o (ho o e) (c.g.wo o e) (fun i d hd=>(c.g.so o e i d hd).1) (fun x hx=>bK _ (by rw [TD.iu e];exact hx)) i hi
theorem qA.root(o:qA h q s nd tb hn T):vD nd s.bC T.t:=.root (lV.2 ⟨_,o.held⟩) (o.c.g.nz _ T.jO)
theorem qA.rch(o:qA h q s nd tb hn T){i:Nat}(hi:i∈T.dN):vD nd s.bC i:=o.c.rch o.root i hi
theorem qA.da(o:qA h q s nd tb hn T){i:Nat}(hi:i∈T.dN):s.da i:=o.g.da (o.rch hi)
theorem qA.tr(o:qA h q s nd tb hn T):TR h q s nd tb hn T T.mv none T.dc.length:=⟨o.g,o.l,o.pos,o.lt,o.held,o.c.g,o.tz,fun i hi=>o.da hi⟩
theorem qA.cI(o:qA h q s nd tb hn T)(k:bY N h h'):qA h' q s nd tb hn T:=⟨o.g.cI k,o.l.cI k,o.pos,o.lt,o.held,o.c,o.tz.cI k⟩
theorem TR.ht(o:TR h q s nd tb hn T lo z n):s.da T.t:=o.hr _ T.jO
theorem F9(x:Gs h q s nd)(l:ti h q tb hn)(hm:nd[id]?=some m)(hh:s.da id){k r:Nat}(hk:m.cY[k]?=some r){i:Int}(hi:i=(k:Int)) (hR:R (uv (s.fk r)) h) :
  bq PG 69 #[vp (sa tb),uv (s.fk id),vi i] h R :=
 Jp (by unfold abW;exact bw ⟨_,l.c0,alw x hm hh hk hi ⟨_,_,rfl,hR⟩⟩)
theorem Ec(x:Gs h q s nd)(l:ti h q tb hn)(hm:nd[id]?=some m)(hh:s.da id){k w:Nat}(hk:m.cN[k]?=some w){i:Int}(hi:i=((m.cY.length+k:Nat):Int)) (hR:R (uv w) h) :
  bq PG 69 #[vp (sa tb),uv (s.fk id),vi i] h R :=
 Jp (by unfold abW;exact bw ⟨_,l.c0,Vu x hm hh hk hi ⟨_,_,rfl,hR⟩⟩)
theorem akw(x:Gs h q s nd)(l:ti h q tb hn){i:Int}(hR:R (uv 0) h):bq PG 69 #[vp (sa tb),uv 0,vi i] h R :=
 Jp (by unfold abW;exact bw ⟨_,l.c0,agN x ⟨_,_,rfl,hR⟩⟩)
theorem zh(x:Gs h q s nd)(l:ti h q tb hn)(hm:nd[id]?=some m)(hh:s.da id)(hR:R (vi (m.cY.length:Nat)) h) :
  bq PG 88 #[vp (sa tb),uv (s.fk id)] h R :=
 Rl (by unfold aij;exact bw ⟨_,l.c0,QH x hm hh ⟨_,_,_,_,rfl,hR⟩⟩)
theorem af6(x:Gs h q s nd)(l:ti h q tb hn)(hR:R (vi 0) h) :
  bq PG 88 #[vp (sa tb),uv 0] h R :=
 Rl (by unfold aij;exact bw ⟨_,l.c0,agM x ⟨_,_,_,_,rfl,hR⟩⟩)
theorem zN(x:Gs h q s nd)(l:ti h q tb hn)(hp:1≤hn)(hd:s.bC.getD (hn-1) none=some id) (hR:R (uv (s.fk id)) h):bq PG 46 #[vp (sa tb)] h R:=by
 refine Ru ?_
 unfold aim
 exact bw ⟨_,l.c0,bw ⟨_,l.c1,_,_,Vv x hp hd ⟨rfl,rfl⟩,hR⟩⟩
theorem RS.at0(s:RS):s.atF 0=(0,35):=by unfold RS.atF RS.xT;simp
theorem Qg(x:Gs h q s nd)(l:ti h q tb 0)(hR:R (uv 0) h):bq PG 46 #[vp (sa tb)] h R:=by
 refine Ru ?_
 unfold aim
 exact bw ⟨_,l.c0,bw ⟨_,l.c1,(0:Int),(35:Int),aoN x.st (n:=0) (by rw [RS.at0];exact⟨rfl,rfl⟩),hR⟩⟩
theorem Ea(o:TR h q s nd tb hn T lo z n){k r:Nat}(hk:[T.nw.id,T.CU][k]?=some r){i:Int}(hi:i=(k:Int)) (hR:R (uv (s.fk r)) h):bq PG 61 #[vp (sa tb),vi i] h R:=by
 refine DM ?_
 unfold Xd
 exact zN o.g o.l o.pos o.held ⟨_,rfl,F9 o.g o.l o.c.tn o.ht hk hi ⟨_,rfl,hR⟩⟩
theorem D9(o:TR h q s nd tb hn T lo z n){k w:Nat}(hk:[T.df,n,T.mv][k]?=some w){i:Int}(hi:i=((2+k:Nat):Int)) (hR:R (uv w) h):bq PG 61 #[vp (sa tb),vi i] h R:=by
 refine DM ?_
 unfold Xd
 exact zN o.g o.l o.pos o.held ⟨_,rfl,Ec o.g o.l o.c.tn o.ht hk hi ⟨_,rfl,hR⟩⟩
theorem ac4(x:Gs h q s nd)(l:ti h q tb 0){i:Int}(hR:R (uv 0) h):bq PG 61 #[vp (sa tb),vi i] h R:=by
 refine DM ?_
 unfold Xd
 exact Qg x l ⟨_,rfl,akw x l ⟨_,rfl,hR⟩⟩
theorem o7 {j:Nat}(h:j≤20):2 ^ j≤1048576∧1≤2 ^ j:=by
 have h1:(2:Nat) ^ j≤2 ^ 20:=fQ (by omega) h
 have h2:0<2 ^ j:=uj (by omega)
 exact⟨by simpa using h1,h2⟩
theorem aqs(t:Tz h q){j:Nat}(hj:j<64)(hR:R (vi (j:Nat)) h):bq PG 155 #[vu ((2 ^ j:Nat):Int)] h R:=by
 refine X3 ?_
 unfold ae1
 refine XJ ?_
 unfold aeJ
 obtain⟨h1,h2,h3⟩:=akk hj
 have hp:0<2 ^ j:=uj (by omega)
 refine cj (by rw [beq_eq_false_iff_ne];omega) ⟨by omega,⟨h1,h2⟩,(j:Int),?_,_,rfl,?_⟩
 ·show cell h ((⟨BF,0,none⟩:Addr).add ((tzI ((2 ^ j:Nat):Int)).toNat*1))=_
  have e:(⟨BF,0,none⟩:Addr)=ad BF:=rfl
  rw [cQ,e,cm,bS t.row,bD,h3];rfl
 ·rw [bU (by omega) (by omega)];exact hR
theorem agd(t:Tz h q){j:Nat}(hj:j≤20){x:Nat}(hx:x<18446744073709551616)(hR:R (vi (bk j x:Nat)) h):bq PG 108 #[uv x,vi ((2 ^ j:Nat):Int)] h R:=by
 refine YD ?_
 unfold afv
 have h2:=o7 hj
 rw [eN (by omega) (by omega)]
 refine aqs t (by omega) ⟨_,rfl,?_⟩
 have e:wrap .i64 ((64:Int)-(j:Int))=((64-j:Nat):Int):=by rw [bU (by omega) (by omega)];omega
 rw [e]
 refine⟨by omega,?_⟩
 have e2:min ((64-j:Nat):Int).toNat (IntKind.bits .u64)=64-j:=by rw [bu,vy];omega
 rw [e2,ri]
 have hb:=Ih (j:=j) (by omega) hx
 have e3:wrap .i64 ((x / 2 ^ (64-j):Nat):Int)=(bk j x:Int):=by
  show wrap .i64 (bk j x:Int)=_
  rw [bU (by omega) (by omega)]
 rw [e3];exact hR
theorem TR.K2(o:TR h q s nd tb hn T lo z n):(T.nw.cs.map lL).length=2 ^ T.nw.j:=by rw [bA];exact o.c.ln
theorem uJ(l:LN)(i:Nat)(z:Option Nat):(tN l i z).length=l.length:=by cases z<;>simp [tN]
theorem UF(o:TR h q s nd tb hn T lo z n){x:Nat}(hx:x<18446744073709551616)(hR:R (vt #[uv (s.fk (T.pick x).id),vi (T.pX x:Nat)]) h) :
  bq PG 114 #[vp (sa tb),uv x] h R:=by
 refine Yz ?_
 unfold afr
 have k1:(T.pick x=T.nw)→JG (sa tb) (x:Int) h R:=fun e=>by
  unfold JG
  refine Ea o (k:=0) rfl rfl ⟨_,rfl,zh o.g o.l o.c.wn (o.hr _ T.nU) ⟨_,rfl,?_⟩⟩
  show bq _ _ #[_,vi (((T.nw.cs.map lL).length:Nat):Int)] _ _
  rw [o.K2]
  refine agd o.tz o.c.jn hx ⟨_,rfl,?_⟩
  unfold TD.pX at hR
  rw [e]at hR
  exact hR
 refine Ea o (k:=1) rfl rfl ⟨_,rfl,?_⟩
 cases ho:T.od with
 |none =>
  refine cj ?_ (k1 (by unfold TD.pick;rw [ho]))
  rw [TD.uV ho,RS.iQ];rfl
 |some od =>
  rw [TD.qV ho]
  have hh:=o.hr _ (TD.rG ho)
  refine cr (by rw [bne_iff_ne];have:=RS.un o.g.v hh;omega) (zh o.g o.l (o.c.wo od ho) hh ⟨_,rfl,?_⟩)
  show bq _ _ #[_,vi (((tN (od.cs.map lL) lo z).length:Nat):Int)] _ _
  rw [uJ,bA,o.c.F3 od ho]
  refine agd o.tz (o.c.jo od ho) hx ⟨_,rfl,D9 o (k:=2) rfl rfl ⟨_,rfl,?_⟩⟩
  have hm:=(o.c.sp od ho).2.2.2
  have h2:=o7 (o.c.jo od ho)
  rw [bU (by omega) (by omega)]
  refine ca (fun o5=>?_) fun fE=>k1 (by unfold TD.pick;rw [ho];dsimp only;rw [if_neg (by omega)])
  have e:T.pick x=od:=by unfold TD.pick;rw [ho];dsimp only;rw [if_pos (by omega)]
  unfold TD.pX at hR
  rw [e]at hR
  exact hR
end
structure GL (sz:Nat) (h0 h:Hp) (a:Sl) (ob:Option Nat) (vs:LV):Prop where
 sl:kM sz h a.a a.n a.c ob vs
 new:∀b,ob=some b→h0.size≤b
section
variable {sz:Nat} {h0 h h' h2:Hp} {a:Sl} {ob:Option Nat} {vs:LV} {S:Nat→Prop}
theorem GL.nil(sz:Nat)(h0 h:Hp):GL sz h0 h ⟨none,0,0⟩ none []:=⟨uL sz h,nofun⟩
theorem GL.lt(x:GL sz h0 h a ob vs){b:Nat}(hb:ob=some b):b<h.size:=by
 obtain⟨_,_,j,r,_⟩:=x.sl.row b hb
 exact eE r
theorem GL.eG(x:GL sz h0 h a ob vs)(k:bY S h h')(hS:∀b,ob=some b→¬S b):GL sz h0 h' a ob vs :=
 ⟨x.sl.eG fun b hb=>k.2 b (x.lt hb) (hS b hb),x.new⟩
theorem GL.cI(x:GL sz h0 h a ob vs)(k:bY (fun _=>False) h h'):GL sz h0 h' a ob vs:=x.eG k fun _ _ e=>e
theorem GL.rd(x:GL sz h0 h a ob vs):dZ h a.a vs:=by
 cases ob with
 |none =>
  have h1:=x.sl.nil rfl
  have h2:=x.sl.len
  rw [h1.1]
  exact dA.1 (by rw [h2,h1.2.1];omega)
 |some b =>
  obtain⟨h1,_,j,h3,_⟩:=x.sl.row b rfl
  rw [h1]
  exact lQ h3 fun k v hv=>by rw [fo,bL (bp.1 hv).1];exact hv
theorem GL.len(x:GL sz h0 h a ob vs):vs.length=a.n*sz:=x.sl.len
theorem GL.at(x:GL sz h0 h a ob vs){o:Nat}{v:Value}(hv:vs[o]?=some v):∃b,ob=some b∧a.a=some (ad b)∧cell h ((ad b).add o)=some v:=by
 cases ob with
 |none =>
  have h1:=x.sl.nil rfl
  have h2:=x.sl.len
  rw [h1.2.1,pG]at h2
  rw [dA.1 h2]at hv
  cases hv
 |some b =>
  obtain⟨h1,_,j,h3,_⟩:=x.sl.row b rfl
  refine⟨b,rfl,h1,?_⟩
  rw [cm,bS h3,bL (bp.1 hv).1];exact hv
theorem GL.Av {e ze:Nat}{z:Array Value}{m:Nat}{fz:LV}{K:OA→Nat→Nat→Hp→Prop}(x:GL sz h0 h a ob vs)(ZR:h0.size≤h.size)(hz:z.size=sz)(hl:fz.length=m*sz)(kY:∀v∈fz,mj v=true)
  (HZ:(2*(a.n+m)+768)*ze≤2 ^ 48) (fE:a.n+m<2 ^ 62)
  (hK:∀a' c' h' jK,GL sz h0 h' ⟨a',a.n+m,c'⟩ jK (vs++fz)→bY (fun b=>ob=some b) h h'→(∀b,jK=some b→ob=some b∨h.size≤b)→K a' (a.n+m) c' h'):Av e sz ze z a.a a.n a.c (a.n+m) fz h K:=by
 refine yp x.sl hz hl kY HZ fE fun a' c' jK h' s' vj=>?_
 have hn:∀b,jK=some b→ob=some b∨h.size≤b:=fun b e=>by
  rcases vj with⟨q,_⟩|⟨q,_⟩
  ·exact .inl (q▸e)
  ·rw [q]at e;obtain rfl:=bt e;exact .inr (bH _)
 have k:bY (fun b=>ob=some b) h h':=by
  rcases vj with⟨_,k⟩|⟨_,k⟩
  ·exact k
  ·exact k.mono fun _ _ e=>e.elim
 exact hK a' c' h' jK ⟨s',fun b hb=>(hn b hb).elim (x.new b) fun h=>by omega⟩ k hn
theorem GL.add {e ze:Nat}{z arr:Array Value}{t:TypeId}{K:OA→Nat→Nat→Hp→Prop}(x:GL sz h0 h a ob vs)(ZR:h0.size≤h.size)(hz:z.size=sz)(hl:arr.toList.length=1*sz)(kY:∀v∈arr.toList,mj v=true)
  (HZ:(2*(a.n+1)+768)*ze≤2 ^ 48) (fE:a.n+1<2 ^ 62)
  (hK:∀a' c' h' jK,GL sz h0 h' ⟨a',a.n+1,c'⟩ jK (vs++arr.toList)→bY (fun b=>ob=some b) h h'→(∀b,jK=some b→ob=some b∨h.size≤b)→K a' (a.n+1) c' h') :
  gi (h.push (.cells arr t)) fun h2=>im e sz ze z a.a a.n a.c (some (nb h)) 1 h2 K:=by
 show (fun h2=>im e sz ze z a.a a.n a.c (some (nb h)) 1 h2 K) (h.push (.cells arr t))
 generalize e2:h.push (.cells arr t)=h2
 have e2:=e2.symm
 have k2:bY (fun _=>False) h h2:=e2▸cF _ _ _
 have mi:eM h2 h.size arr.toList:=e2▸du h arr t
 exact⟨arr.toList,lQ mi (fun j v hj=>by rw [fo];exact hj),hl,(x.cI k2).Av (bP ZR k2.1) hz hl kY HZ fE fun a' c' h' jK g k n =>
  hK a' c' h' jK g ((k2.mono fun _ _ e=>e.elim).trans k) fun b hb=>(n b hb).imp_right fun h=>bP k2.1 h⟩
theorem cL (k:bY (fun _=>False) h0 h) (k2:bY S h h') (hS:∀b,S b→h0.size≤b):bY (fun _=>False) h0 h' :=
 ⟨bP k.1 k2.1,fun i hi _=>(k2.2 i (bZ hi k.1) fun s=>by have:=hS i s;omega).trans (k.2 i hi _root_.id)⟩
end
section
variable {h h':Hp} {R:RP} {b:LN} {a:Sl}
theorem aja(k:Nat)(hk:k≤64):min (k:Int).toNat (IntKind.bits .u64)=k:=by rw [bu,vy];omega
theorem xsh(x k:Nat)(hx:x<18446744073709551616):yX .u64 (x:Int) (Int.fdiv (x:Int) (2 ^ k))=((x ^^^ shr x k:Nat):Int):=by
 rw [WZ,DX hx (II hx)]
theorem VW:(15466983567672013453:Int)=(mc1:Int):=by decide
theorem VV:(12920666929402377605:Int)=(mc2:Int):=by decide
theorem akb(x:Nat):wrap .u64 (((x ^^^ shr x 32:Nat):Int)*(mc1:Int))=(Dl x:Int):=by rw [Kq];rfl
theorem aka(x:Nat):wrap .u64 (((x ^^^ shr x 29:Nat):Int)*(mc2:Int))=(K5 x:Int):=by rw [Kq];rfl
theorem e32:min (32:Int).toNat (IntKind.bits .u64)=32:=by decide
theorem e29:min (29:Int).toNat (IntKind.bits .u64)=29:=by decide
theorem akc {x:Nat}(hx:x<18446744073709551616)(hR:R (uv (SU x)) h):bq PG 116 #[uv x] h R:=by
 refine Yx ?_
 unfold afp
 refine⟨by omega,by omega,by omega,?_⟩
 rw [e32,e29,VW,VV,xsh x 32 hx,akb,xsh (Dl x) 29 (DD x),aka,xsh (K5 (Dl x)) 32 (DC _)]
 exact hR
theorem aj9 (rd:dZ h a.a (b.map bv)) (na:a.n=b.length) (b8:fK b) (hl:b.length≤140737488351232) (hR:∀c h',eM h' c ((wL b).map uv)→bY N h h'→R (.slice (sa c) (wn b.length) (wn b.length)) h') :
  bq PG 117 #[.slice a.a a.n a.c] h R:=by
 have hw:wn b.length≤17592186043904:=by unfold wn;omega
 refine Yw ?_
 unfold afo
 rw [na]
 refine Mr ?_
 unfold X0
 have k0:∀t:Int,t=(wn b.length:Int)→∃t8:Int,(vi t:Value)=vi t8∧(0≤t8∧t8≤t8)∧t8<2 ^ 62∧(8:Nat)*t8≤2 ^ 48∧gi (h.push (.cells (ja #[vu 0] (t8.toNat*1)) 27)) fun h2=>dO (kJ PG fN E2 (sub [1,1,0,1,0,0] (bd Tryz.f117))) (dW PG fN E2 [1,1,0,1,0] (bd Tryz.f117) [] (eJ PG Tryz.f117 [] R)) [(3,.slice (some (nb h)) t8.toNat t8.toNat),(10,.slice a.a b.length a.c),(11,vi (b.length:Int)),(12,vi 0)] 32 h2:=fun t e=>by
  subst e
  refine⟨_,rfl,⟨by omega,Int.le_refl _⟩,by omega,by omega,dh fun h1 e1=>?_⟩
  rw [bu]at e1 ⊢
  have k1:bY N h h1:=e1▸cF _ _ _
  have A2:eM h1 h.size ((uZ b 0).map uv):=by
   rw [Og,←Kp,e1]
   exact du h (ja #[vu 0] (wn b.length*1)) 27
  refine MG (s3:=⟨some (ad h.size),wn b.length,wn b.length⟩) (oh:=⟨a.a,b.length,a.c⟩) (fun p s3 oh pc rO h2=>∃m:Nat,m≤b.length∧p=b.length-m∧⟨some (ad h.size),wn b.length,wn b.length⟩=s3∧⟨a.a,b.length,a.c⟩=oh∧pc=(b.length:Int)∧rO=(m:Int)∧eM h2 h.size ((uZ b m).map uv)∧bY N h h2) b.length
   ⟨0,cP _,rfl,rfl,rfl,rfl,rfl,A2,k1⟩ ?_
  rintro p s3 oh pc rO g h2 ⟨m,hm,rfl,rfl,rfl,rfl,rfl,mi,k2⟩
  unfold Pq
  refine ca (fun fE=>?_) fun o5=>?_
  ·have hmb:m<b.length:=by omega
   have hq:m / 8<wn b.length:=by unfold wn;omega
   have rd2:=fC k2 rd
   obtain⟨p,hp,hc⟩:=ni rd2 (i:=m) (v:=bv (b.getD m 0)) (by rw [bD,br hmb,bB,br hmb];rfl)
   have hq2:wrap .i64 (Int.tdiv (m:Int) 8)=((m / 8:Nat):Int):=by rw [yw (by omega),bU (by omega) (by omega)];omega
   have hr2:wrap .i64 ((8:Int)*(Int.tmod (m:Int) 8))=((8*(m%8):Nat):Int):=by rw [Dv (by omega),bU (by omega) (by omega)];omega
   have o0:(uZ b m).length=wn b.length:=by unfold uZ;simp
   have hw:(uZ b m)[m / 8]?=some (jG (b.take m) (8*(m / 8))):=by unfold uZ;rw [bD,fL hq];rfl
   have hb:=DK b8 m
   have ht:∀c∈b.take m,c<256:=fun c hc=>b8 c (dK hc)
   refine⟨⟨by omega,by show (m:Int)<(b.length:Int);omega⟩,cW hp ⟨_,by rw [bu,cQ];exact hc,by omega,?_⟩⟩
   rw [hq2,hr2,bu,cQ]
   refine⟨⟨by omega,by show ((m / 8:Nat):Int)<(wn b.length:Int);omega⟩,bw ⟨((jG (b.take m) (8*(m / 8)):Nat):Int),?_,by omega,by omega,⟨by omega,by show ((m / 8:Nat):Int)<(wn b.length:Int);omega⟩,bw ?_⟩⟩
   ·rw [cm,bS mi,bD,hw];rfl
   ·have e1:wrap .u64 (wrap .u64 (b.getD m 0:Int)*2 ^ (min ((8*(m%8):Nat):Int).toNat (IntKind.bits .u64)))=((b.getD m 0*2 ^ (8*(m%8)):Nat):Int):=by
     have hr8:8*(m%8)≤56:=by omega
     rw [aja _ (by omega),eN (x:=(b.getD m 0:Int)) (by omega) (by omega)]
     have hpw:(2:Nat) ^ (8*(m%8))≤2 ^ 56:=fQ (by omega) hr8
     have h56:(2:Nat) ^ 56=72057594037927936:=by decide
     rw [h56]at hpw
     have amM:b.getD m 0*2 ^ (8*(m%8))≤255*72057594037927936:=Nat.mul_le_mul (by omega) hpw
     have e0:(b.getD m 0:Int)*2 ^ (8*(m%8))=((b.getD m 0*2 ^ (8*(m%8)):Nat):Int):=by
      rw [mI];congr 1
     rw [e0]
     generalize b.getD m 0*2 ^ (8*(m%8))=u at *
     exact eN (by omega) (by omega)
    have hub:b.getD m 0*2 ^ (8*(m%8))<18446744073709551616:=by
     have hpw:(2:Nat) ^ (8*(m%8))≤2 ^ 56:=fQ (by omega) (by omega)
     have h56:(2:Nat) ^ 56=72057594037927936:=by decide
     rw [h56]at hpw
     have amM:b.getD m 0*2 ^ (8*(m%8))≤255*72057594037927936:=Nat.mul_le_mul (by omega) hpw
     omega
    rw [e1,yF (uF ht _) hub,aa4 b8 hmb,cm]
    refine⟨jH mi (by rw [bA,o0];exact hq),dh fun h3 e3=>⟨b.length-(m+1),by omega,m+1,hmb,rfl,rfl,rfl,rfl,by rw [bU (by omega) (by omega)];rfl,?_,?_⟩⟩
    ·have:=hG mi (m / 8) (uv (jG (b.take (m+1)) (8*(m / 8))))
     rw [Oh hmb,ig,e3]
     exact this
    ·exact cL k2 (e3▸gf h2 _ _ (S:=fun c=>c=h.size) rfl) fun c e=>by rw [e];exact bH _
  ·obtain rfl:m=b.length:=by omega
   rw [S2]at mi
   exact hR h.size h2 mi k2
 refine ca (fun fE=>k0 _ ?_) fun o5=>⟨by omega,k0 _ ?_⟩
 ·unfold wn;omega
 ·rw [bU (x:=(b.length:Int)-1) (by omega) (by omega),fD (by omega),bU (x:=((b.length:Int)-1) / 8) (by omega) (by omega),bU (by omega) (by omega)]
  unfold wn;omega
theorem Ut (rd:dZ h a.a (b.map bv)) (na:a.n=b.length) (b8:fK b) (hl:b.length≤140737488351232) {df:Nat} (hs:df<18446744073709551616) (hR:∀h',bY N h h'→R (uv (fU df b)) h') :
  bq PG 68 #[uv df,.slice a.a a.n a.c] h R:=by
 have hw:wn b.length≤17592186043904:=by unfold wn;omega
 refine abX ?_
 unfold anX
 rw [na]
 have e0:wrap .u64 ((df:Int)+wrap .u64 (b.length:Int))=(((df+b.length)%18446744073709551616:Nat):Int):=by
  rw [eN (x:=(b.length:Int)) (by omega) (by omega),AM]
 rw [e0]
 have hm:(df+b.length)%18446744073709551616<18446744073709551616:=jB _ (by omega)
 refine akc hm ⟨_,rfl,aj9 (a:=⟨a.a,b.length,a.c⟩) rd rfl b8 hl fun c h1 row k1=>⟨⟨_,_,_⟩,rfl,?_⟩⟩
 refine OT (qS:=⟨some (ad c),wn b.length,wn b.length⟩) (fun p s5 qS wJ Ew h2=>∃m:Nat,m≤wn b.length∧p=wn b.length-m∧s5=((xQ (Ra df b.length) b m:Nat):Int)∧⟨some (ad c),wn b.length,wn b.length⟩=qS∧wJ=(wn b.length:Int)∧Ew=(m:Int)∧h1=h2) (wn b.length)
  ⟨0,cP _,rfl,rfl,rfl,rfl,rfl,rfl⟩ ?_
 rintro p s5 qS wJ Ew g h2 ⟨m,hm,rfl,rfl,rfl,rfl,rfl,rfl⟩
 unfold Xa
 refine ca (fun fE=>?_) fun o5=>?_
 ·have hmw:m<wn b.length:=by omega
  refine⟨⟨by omega,by show (m:Int)<(wn b.length:Int);omega⟩,bw ⟨((jG b (8*m):Nat):Int),?_,?_⟩⟩
  ·rw [bu,cQ,cm,bS row,bD,B0 hmw];rfl
  ·rw [DX (vk (xR _ _) _ _) (uF b8 _)]
   refine akc (DV (vk (xR _ _) _ _) (uF b8 _)) ⟨_,rfl,wn b.length-(m+1),by omega,m+1,hmw,rfl,by rw [xP],rfl,rfl,by rw [bU (by omega) (by omega)];rfl,rfl⟩
 ·obtain rfl:m=wn b.length:=by omega
  exact hR h1 k1
end
section
variable {h h':Hp} {q:HQ} {s:RS} {nd:List di} {m:di} {tb hn:Nat} {T:TD} {R:RP} {key:LN} {n hs:Nat} {z:Option Nat} {a:Sl}
theorem yT.Je(c:yT nd T){x:Nat}(hx:x<18446744073709551616){p r:List iM}(hc:T.chain x=p++r):
  ∃m,nd[(lW (T.pick x) (T.pX x) p).1]?=some m∧m.cY[(lW (T.pick x) (T.pX x) p).2]?=some (lL r)∧(lW (T.pick x) (T.pX x) p).1∈T.dN:=by
 rcases tW p with rfl|⟨p,y,rfl⟩
 ·rw [Fa]
  have ea:=c.g.lX hx
  rw [hc,eU]at ea
  have e3:((T.pick x).cs.map lL)[T.pX x]?=some (lL r):=by rw [bD,ea];rfl
  refine⟨⟨5,(T.pick x).cs.map lL,[]⟩,?_,e3,c.g.Bb x⟩
  unfold TD.pick
  cases ho:T.od with
  |none=>exact c.g.wn
  |some o=>dsimp only;split;exact c.g.wo o ho;exact c.g.wn
 ·rw [jM]
  have hs:=(c.g.TZ hx).1
  rw [hc,ce]at hs
  have:=(ou.1 hs).2.1
  have hy:y∈T.dc:=c.g.lu hx (by rw [hc];simp)
  exact⟨_,this.1,rfl,TD.pq hy⟩
theorem akx(o:qA h q s nd tb hn T)(rk:dZ h a.a (key.map bv)) (na:a.n=key.length) (b8:fK key) {x:Nat} (hx:x<18446744073709551616)
  (wX:(∀e∈T.chain x,¬(e.hs=x∧e.key=key))→∀h' r i,bY N h h'→R (vt #[uv r,vi i,uv 0]) h')
  (xK:∀p e c h',T.chain x=p++e::c→e.hs=x→e.key=key→bY N h h'→R (vt #[uv (s.fk (lW (T.pick x) (T.pX x) p).1),vi ((lW (T.pick x) (T.pX x) p).2:Nat),uv (s.fk e.e)]) h') :
  bq PG 67 #[vp (sa tb),uv x,.slice a.a a.n a.c] h R:=by
 refine abY ?_
 unfold anZ
 refine UF o.tr hx ⟨_,_,rfl,?_⟩
 refine OU (s2:=a) (fun k s0 s1 s2 s6 s7 h1=>∃p r:List iM,T.chain x=p++r∧(∀e∈p,¬(e.hs=x∧e.key=key))∧k=r.length∧some (ad tb)=s0∧(x:Int)=s1∧a=s2 ∧
   s6=((s.fk (lW (T.pick x) (T.pX x) p).1:Nat):Int)∧s7=(((lW (T.pick x) (T.pX x) p).2:Nat):Int)∧bY N h h1) (T.chain x).length
  ⟨[],T.chain x,rfl,nofun,rfl,rfl,rfl,rfl,rfl,rfl,bY.refl _ _⟩ ?_
 rintro k s0 s1 s2 s6 s7 g h1 ⟨p,r,hc,hp,rfl,rfl,rfl,rfl,rfl,rfl,k1⟩
 have o1:=o.cI k1
 obtain⟨mm,hm,hr,hi⟩:=o.c.Je hx hc
 unfold Xb
 refine F9 o1.g o1.l hm (o1.da hi) hr rfl ⟨_,rfl,?_⟩
 cases r with
 |nil =>
  have e0:s.fk (lL [])=0:=RS.iQ s
  rw [e0]
  refine cr rfl (wX (fun e he=>hp e ?_) h1 _ _ k1)
  rw [hc,eV]at he;exact he
 |cons e c =>
  have he:e∈T.dc:=o.c.g.lu hx (by rw [hc];simp)
  have hse:=(o.c.g.TZ hx).1
  rw [hc]at hse
  obtain⟨GY,hkn,ok⟩:=(ou.1 hse).2.1
  have hh:=o1.da (TD.pq he)
  have hhk:=o1.da (TD.EZ he)
  have next:∀h3,bY N h h3→¬(e.hs=x∧e.key=key)→∃m,m<(e::c).length∧∃p r:List iM,T.chain x=p++r∧(∀e∈p,¬(e.hs=x∧e.key=key))∧m=r.length∧some (ad tb)=some (ad tb)∧(x:Int)=(x:Int)∧a=a ∧
    (s.fk e.e:Int)=((s.fk (lW (T.pick x) (T.pX x) p).1:Nat):Int)∧(0:Int)=(((lW (T.pick x) (T.pX x) p).2:Nat):Int)∧bY N h h3:=fun h3 k3 iS =>
   ⟨c.length,by simp,p++[e],c,by rw [hc];simp,fun y hy=>(bI.1 hy).elim (hp y) fun h=>by rw [bM.1 h];exact iS,rfl,rfl,rfl,rfl,by rw [jM],by rw [jM];rfl,k3⟩
  refine cj (by rw [beq_eq_false_iff_ne];have:=RS.un o1.g.v hh;show (s.fk e.e:Int)≠0;omega) (Ec o1.g o1.l GY hh (k:=0) rfl rfl ⟨_,rfl,?_⟩)
  refine fY (fun hb=>?_) fun hb=>next h1 k1 fun z=>by rw [z.1]at hb;simp at hb
  have hb:e.hs=x:=by rw [beq_iff_eq]at hb;omega
  refine bw ⟨_,o1.l.c0,F9 o1.g o1.l GY hh (k:=1) rfl rfl ⟨_,rfl,⟨_,o1.l.c0,rfl⟩,?_⟩⟩
  refine PH o1.g.st (o1.g.isB hhk hkn) ok (c:=a) (fC k1 rk) na b8 fun h4 k4=>⟨_,_,rfl,?_⟩
  refine fY (fun hz=>?_) fun hz=>next h4 (cL k1 k4 fun _ z=>z.elim) fun z=>by
   have:i0 e.key key=0:=by rw [z.2];exact vx _
   rw [this]at hz;simp at hz
  have hk:e.key=key:=ug (by rw [beq_iff_eq]at hz;exact hz)
  exact xK p e c h4 hc hb hk (cL k1 k4 fun _ z=>z.elim)
end
section
variable {h h' h2:Hp} {q q':HQ} {s s':RS} {nd gm:List di} {m:di} {id tb hn:Nat} {T:TD} {R:RP} {key:LN} {lo n n' hs:Nat} {z:Option Nat} {a:Sl} {x:iM}
theorem zu(f:wF h q s nd h' q' s' gm)(hm:gm[id]?=some m)(hh:s.da id){k t:Nat}(ht:t=0∨s.da t)(hk:k<m.cY.length){i:Int}(hi:i=(k:Int))
  (hR:∀h2 q2 s2 lT,wF h q s nd h2 q2 s2 lT→(∀x,lT[x]?=if x=id then some ⟨m.kind,m.cY.set k t,m.cN⟩else gm[x]?)→R (vi 0) h2) :
  bq PG 92 #[vp (sa q'.hb),uv (s.fk id),vi i,uv (s.fk t)] h' R:=by
 rw [f.fk id,f.fk t]
 exact alu f.g hm (f.da hh) (f.anb ht) hk hi fun h2 q2 s2 g2 al er ex=>hR h2 q2 s2 _ (f.trans ⟨g2,al,er,ex,cd ..⟩) fun x=>BQ hm _ x
theorem vO(f:wF h q s nd h' q' s' gm)(hm:gm[id]?=some m)(hh:s.da id){k w:Nat}(hw:w<18446744073709551616)(hk:k<m.cN.length){i:Int}(hi:i=((m.cY.length+k:Nat):Int))
  (hR:∀h2 q2 s2 lT,wF h q s nd h2 q2 s2 lT→(∀x,lT[x]?=if x=id then some ⟨m.kind,m.cY,m.cN.set k w⟩else gm[x]?)→R (vi 0) h2) :
  bq PG 92 #[vp (sa q'.hb),uv (s.fk id),vi i,uv w] h' R:=by
 rw [f.fk id]
 exact Vs f.g hm (f.da hh) hw hk hi fun h2 q2 s2 g2 al er ex=>hR h2 q2 s2 _ (f.trans ⟨g2,al,er,ex,cd ..⟩) fun x=>BQ hm _ x
theorem adF(f:wF h q s nd h' q' s' gm)(l:ti h' q' tb hn)(hm:gm[id]?=some m)(hh:s.da id){k r:Nat}(hk:m.cY[k]?=some r){i:Int}(hi:i=(k:Int)) (hR:R (uv (s.fk r)) h') :
  bq PG 69 #[vp (sa tb),uv (s.fk id),vi i] h' R:=by
 rw [f.fk id]
 rw [f.fk r]at hR
 exact F9 f.g l hm (f.da hh) hk hi hR
theorem agK(f:wF h q s nd h' q' s' gm)(l:ti h' q' tb hn)(hm:gm[id]?=some m)(hh:s.da id){k w:Nat}(hk:m.cN[k]?=some w){i:Int}(hi:i=((m.cY.length+k:Nat):Int)) (hR:R (uv w) h') :
  bq PG 69 #[vp (sa tb),uv (s.fk id),vi i] h' R:=by
 rw [f.fk id]
 exact Ec f.g l hm (f.da hh) hk hi hR
theorem TR.fld(o:TR h q s nd tb hn T lo z n)(f:wF h q s nd h' q' s' gm){T':TD}{F3 n':Nat}{z':Option Nat}(ht:T'.t=T.t)(c:gD gm T' F3 z' n')(hr:∀i∈T'.dN,s.da i):TR h' q' s' gm tb hn T' F3 z' n' :=
 ⟨f.g,o.l.ex f.ex,o.pos,o.lt,by rw [f.rt,ht];exact o.held,c,o.tz.ex f.ex,fun i hi=>f.da (hr i hi)⟩
theorem gD.HD(g:gD nd T lo z n)(y:Nat)(hz:∀o,T.od=some o→T.mv≤bk o.j y→z=none):nd[(T.pick y).id]?=some ⟨5,(T.pick y).cs.map lL,[]⟩:=by
 unfold TD.pick
 cases ho:T.od with
 |none=>exact g.wn
 |some o =>
  dsimp only
  split
  ·rename_i hm
   have:=g.wo o ho
   rw [hz o ho hm]at this
   exact this
  ·exact g.wn
theorem PK(o:TR h q s nd tb hn T lo z n){y:Nat}(hy:y<18446744073709551616):lL (T.chain y)=0∨s.da (lL (T.chain y)):=by
 rcases e:T.chain y with _|⟨x,c⟩
 ·exact .inl rfl
 ·exact .inr (o.hr _ (TD.pq (o.c.lu hy (by rw [e];exact bQ ..))))
theorem ac6(o:TR h q s nd tb hn T lo z n)(hx:x.hs<18446744073709551616)(hz:∀o,T.od=some o→T.mv≤bk o.j x.hs→z=none)(f1:x.e∉T.dN)(f2:x.k∉T.dN)(f3:x.e≠x.k)(h1:s.da x.e)(h2:s.da x.k)
  {w:Nat} (he:nd[x.e]?=some (x.node w)) (hk:nd[x.k]?=some (oV x.key)) (ok:Ko x.key)
  (hR:∀h' q' s' gm,wF h q s nd h' q' s' gm→TR h' q' s' gm tb hn (T.fW x.hs (x::T.chain x.hs)) lo z n→(∀y,gm[y]?=if y=(T.pick x.hs).id then some ⟨5,((T.pick x.hs).cs.map lL).set (T.pX x.hs) x.e,[]⟩else if y=x.e then some (x.node (lL (T.chain x.hs)))else nd[y]?)→R (vt #[]) h') :
  bq PG 93 #[vp (sa tb),uv (s.fk x.e),uv x.hs] h R:=by
 refine abJ ?_
 unfold anI
 have pn:=o.c.HD x.hs hz
 have pi:=o.c.Bb x.hs
 have ch:=o.c.lX hx
 have e3:((T.pick x.hs).cs.map lL)[T.pX x.hs]?=some (lL (T.chain x.hs)):=by rw [bD,ch];rfl
 have fE:T.pX x.hs<((T.pick x.hs).cs.map lL).length:=(bp.1 e3).1
 have ne:(T.pick x.hs).id≠x.e:=fun e=>f1 (e▸pi)
 refine UF o hx ⟨_,_,rfl,bw ⟨_,o.l.c0,F9 o.g o.l pn (o.hr _ pi) e3 rfl ⟨_,rfl,⟨_,o.l.c0,rfl⟩,?_⟩⟩⟩
 refine zu (wF.refl o.g) he h1 (PK o hx) (k:=0) (by unfold iM.node;simp) rfl fun ha qa sa nda fa va=>⟨_,rfl,bw ⟨_,(o.l.ex fa.ex).c0,?_⟩⟩
 have pna:nda[(T.pick x.hs).id]?=some ⟨5,(T.pick x.hs).cs.map lL,[]⟩:=by rw [va,if_neg ne];exact pn
 refine zu fa pna (o.hr _ pi) (.inr h1) fE rfl fun hb qb sb ndb fb xm=>⟨_,rfl,?_⟩
 have hv:∀y,ndb[y]?=if y=(T.pick x.hs).id then some ⟨5,((T.pick x.hs).cs.map lL).set (T.pX x.hs) x.e,[]⟩else if y=x.e then some (x.node (lL (T.chain x.hs)))else nd[y]?:=fun y=>by
  rw [xm,va];rfl
 have c':gD ndb (T.fW x.hs (x::T.chain x.hs)) lo z n:=by
  refine o.c.push hx hz f1 f2 f3 (RS.sv o.g.v h1) (RS.sv o.g.v h2) ⟨?_,?_,ok⟩ ?_ ?_ fun i hi n1 n2=>?_
  ·rw [hv,if_neg (Ne.symm ne),if_pos rfl]
  ·rw [hv,if_neg fun e=>f2 (by rw [e];exact pi),if_neg (Ne.symm f3)];exact hk
  ·rw [hv,if_pos rfl]
  ·rw [hv,if_neg (Ne.symm (o.c.n_t x.hs)),if_neg fun e=>f1 (by rw [←e];exact T.jO)];exact o.c.tn
  ·rw [hv,if_neg n2,if_neg fun e=>f1 (by rw [←e];exact hi)]
 refine hR hb qb sb ndb fb (o.fld fb (T.zP _ _).1 c' fun i hi=>?_) hv
 rw [T.uN]at hi
 rcases bI.1 hi with hi|hi
 ·exact o.hr i (bW _ hi)
 ·obtain⟨r,p1,p2⟩:=o.c.lS hx
  have pe:=iT (p2 (x::T.chain x.hs))
  rw [iE,gS]at pe
  have hi:=pe.mem_iff.1 hi
  rcases bI.1 hi with hi|hi
  ·rcases ck.1 hi with rfl|hi
   ·exact h1
   rcases ck.1 hi with rfl|hi
   ·exact h2
   ·exact o.hr i (bK _ (o.c.qy hx i hi))
  ·exact o.hr i (bK _ ((iT p1).mem_iff.2 (by rw [iE];exact bK _ hi)))
theorem aku(l:ti h q tb hn)(f:wF h q s nd h' q' s' gm)(h1:s.da x.e){w r a b:Nat}(hr:r=0∨s.da r)(ha:a<18446744073709551616)(hb:b<18446744073709551616)(he:gm[x.e]?=some (x.node w))
  (hR:∀h2 q2 s2 lT,wF h q s nd h2 q2 s2 lT→(∀y,lT[y]?=if y=x.e then some (({x with r:=r,a:=a,b:=b}:iM).node w)else gm[y]?)→R (vt #[]) h2) :
  bq PG 94 #[vp (sa tb),uv (s.fk x.e),uv (s.fk r),uv a,uv b] h' R:=by
 refine abI ?_
 unfold anH
 refine bw ⟨_,(l.ex f.ex).c0,zu f he h1 hr (k:=2) (by unfold iM.node;simp) rfl fun ha1 qa sa nda fa va=>⟨_,rfl,?_⟩⟩
 have na:nda[x.e]?=some ⟨6,[w,x.k,r],[x.hs,x.a,x.b]⟩:=by rw [va,if_pos rfl];rfl
 refine bw ⟨_,(l.ex fa.ex).c0,vO fa na h1 ha (k:=1) (by simp) rfl fun ha2 qb sb ndb fb xm=>⟨_,rfl,?_⟩⟩
 have nb2:ndb[x.e]?=some ⟨6,[w,x.k,r],[x.hs,a,x.b]⟩:=by rw [xm,if_pos rfl];rfl
 refine bw ⟨_,(l.ex fb.ex).c0,vO fb nb2 h1 hb (k:=2) (by simp) rfl fun ha3 qc sc T7 fc vc=>⟨_,rfl,hR ha3 qc sc T7 fc fun y=>?_⟩⟩
 rw [vc,xm,va]
 by_cases e:y=x.e
 ·rw [if_pos e,if_pos e];rfl
 ·rw [if_neg e,if_neg e,if_neg e,if_neg e]
end
structure Stp (T T1:TD) (o o1:rI) (to:Nat):Prop where
 t:T1.t=T.t
 df:T1.df=T.df
 nid:T1.nw.id=T.nw.id
 nj:T1.nw.j=T.nw.j
 od:T1.od=some o1
 CU:o1.id=o.id
 oj:o1.j=o.j
 mv:T1.mv=to
 lS:T1.dc.Perm T.dc
 dN:∀i∈T1.dN,i∈T.dN
structure Stepped (T T':TD):Prop where
 t:T'.t=T.t
 df:T'.df=T.df
 nid:T'.nw.id=T.nw.id
 nj:T'.nw.j=T.nw.j
 lS:T'.dc.Perm T.dc
 dN:∀i∈T'.dN,i∈T.dN
 sh:∀o,T.od=some o→if 2 ^ o.j≤T.mv+16 then T'.od=none∧T'.mv=0 else(∃o',T'.od=some o'∧o'.id=o.id∧o'.j=o.j)∧T'.mv=T.mv+16
 sh0:T.od=none→T'=T
section
variable {h h' h2:Hp} {q q':HQ} {s s':RS} {nd gm:List di} {id tb hn:Nat} {T T':TD} {R:RP} {hs to:Nat} {z:Option Nat} {x:iM} {o:rI}
theorem U4(hb:∀o,T.od=some o→¬T.mv≤bk o.j hs)(c:List iM):T.fW hs c={T with nw:=T.nw.fW (bk T.nw.j hs) c}∧T.pick hs=T.nw:=by
 unfold TD.fW TD.pick
 cases ho:T.od with
 |none=>exact⟨rfl,rfl⟩
 |some o=>dsimp only;rw [if_neg (hb o ho),if_neg (hb o ho)];exact⟨rfl,rfl⟩
theorem akm(p:qA h q s nd tb hn T)(wX:T.od=none→R (vb false) h)
  (xK:∀h' q' s' gm T',T.od≠none→wF h q s nd h' q' s' gm→qA h' q' s' gm tb hn T'→Stepped T T'→(∀i,i∉T.dN→gm[i]?=nd[i]?)→R (vb true) h') :
  bq PG 47 #[vp (sa tb)] h R:=by
 refine Rt ?_
 unfold ail
 refine Ea p.tr (k:=1) rfl rfl ⟨_,rfl,?_⟩
 cases ho:T.od with
 |none=>exact cr (by rw [TD.uV ho,RS.iQ];rfl) (wX ho)
 |some o =>
 rw [TD.qV ho]
 have hh:=p.da (TD.rG ho)
 have jo:=p.c.g.jo o ho
 have h2:=o7 jo
 have hmv:=p.c.mv o ho
 refine cj (by rw [beq_eq_false_iff_ne];have:=RS.un p.g.v hh;show (s.fk o.id:Int)≠0;omega) (zh p.g p.l (p.c.g.wo o ho) hh ⟨_,rfl,?_⟩)
 have e1:(di.mk 5 (tN (o.cs.map lL) T.mv none) []).cY.length=2 ^ o.j:=by show (tN (o.cs.map lL) T.mv none).length=_;rw [uJ,bA,p.c.g.F3 o ho]
 rw [e1]
 refine D9 p.tr (k:=2) rfl rfl ⟨_,rfl,bw ⟨_,p.l.c0,?_⟩⟩
 obtain⟨to,hto⟩:∃to,to=if T.mv+16<2 ^ o.j then T.mv+16 else 2 ^ o.j:=⟨_,rfl⟩
 have asY:to≤2 ^ o.j∧T.mv<to:=by rw [hto];split<;>omega
 have e2:(if wrap .i64 (wrap .i64 (T.mv:Int)+16)<((2 ^ o.j:Nat):Int)then wrap .i64 (wrap .i64 (T.mv:Int)+16)else((2 ^ o.j:Nat):Int))=(to:Int):=by
  rw [bU (x:=(T.mv:Int)) (by omega) (by omega),bU (by omega) (by omega),hto]
  generalize 2 ^ o.j=y at *
  split<;>split<;>omega
 rw [e2,eN (x:=(to:Int)) (by omega) (by omega),bU (x:=(T.mv:Int)) (by omega) (by omega)]
 refine⟨_,zN p.g p.l p.pos p.held ⟨rfl,rfl⟩,?_⟩
 refine vO (wF.refl p.g) p.c.g.tn (p.da T.jO) (by omega) (k:=2) (by simp) rfl fun h1 q1 s1 kq f1 v1=>⟨_,rfl,?_⟩
 have c1:gD kq {T with mv:=to} T.mv none T.dc.length:=p.c.g.go ho (by omega) asY.1 fun i=>by rw [v1];rfl
 have t1:TR h1 q1 s1 kq tb hn {T with mv:=to} T.mv none T.dc.length:=p.tr.fld f1 rfl c1 fun i hi=>p.da hi
 have fr1:∀i,i∉T.dN→kq[i]?=nd[i]?:=fun i hi=>by rw [v1,if_neg fun e=>hi (by rw [e];exact T.jO)]
 refine OX (fun k s0 s3 s4 s6 s7 h3=>∃(i:Nat) (q3:HQ) (s3':RS) (SS:List di) (T3:TD) (o3:rI),T.mv≤i∧i≤to∧k=to-i∧some (ad tb)=s0∧(s.fk o.id:Int)=s3∧((2 ^ o.j:Nat):Int)=s4∧(to:Int)=s6∧(i:Int)=s7 ∧
   wF h q s nd h3 q3 s3' SS∧TR h3 q3 s3' SS tb hn T3 i none T.dc.length∧Stp T T3 o o3 to∧∀i,i∉T.dN→SS[i]?=nd[i]?) (to-T.mv)
  ⟨T.mv,q1,s1,kq,_,o,bH _,by omega,rfl,rfl,rfl,rfl,rfl,rfl,f1,t1,⟨rfl,rfl,rfl,rfl,ho,rfl,rfl,rfl,fT _,fun _ h=>h⟩,fr1⟩ ?_
 rintro k s0 s3 s4 s6 s7 g h3 ⟨i,q3,s3',SS,T3,o3,hi1,hi2,rfl,rfl,rfl,rfl,rfl,rfl,f3,t3,st,fr3⟩
 unfold Xg
 refine ca (fun fE=>?_) fun o5=>?_
 ·have fE:i<to:=by omega
  have w3:=t3.c.wo o3 st.od
  rw [st.CU]at w3
  have hl3:i<o3.cs.length:=by rw [t3.c.F3 o3 st.od,st.oj];omega
  have hc3:=br hl3
  generalize o3.cs[i]=c0 at hc3
  refine adF f3 t3.l w3 hh (k:=i) (r:=lL c0) (by show (o3.cs.map lL)[i]?=_;rw [bD,hc3];rfl) rfl ⟨_,rfl,?_⟩
  refine OW (fun k2 s0 s3 s4 s6 s7 s8 h4=>∃(q4:HQ) (s4':RS) (nd4:List di) (T4:TD) (o4:rI) (z:Option Nat) (c:List iM),k2=c.length∧some (ad tb)=s0∧(s.fk o.id:Int)=s3∧((2 ^ o.j:Nat):Int)=s4∧(to:Int)=s6∧(i:Int)=s7 ∧
    ((s.fk (lL c):Nat):Int)=s8∧o4.cs[i]?=some c∧wF h q s nd h4 q4 s4' nd4∧TR h4 q4 s4' nd4 tb hn T4 i z T.dc.length∧Stp T T4 o o4 to∧∀i,i∉T.dN→nd4[i]?=nd[i]?) c0.length
   ⟨q3,s3',SS,T3,o3,none,c0,rfl,rfl,rfl,rfl,rfl,rfl,rfl,hc3,f3,t3,st,fr3⟩ ?_
  rintro k2 s0 s3 s4 s6 s7 s8 g2 h4 ⟨q4,s4',nd4,T4,o4,z,c,rfl,rfl,rfl,rfl,rfl,rfl,rfl,hc4,f4,t4,Df,fr4⟩
  unfold Xf
  cases c with
  |nil =>
   refine cj (by show ((s.fk 0:Int) != 0)=false;rw [RS.iQ];rfl) (bw ⟨_,t4.l.c0,?_⟩)
   have w4:=t4.c.wo o4 Df.od
   rw [Df.CU]at w4
   have hl4:i<o4.cs.length:=(bp.1 hc4).1
   have e0:(0:Int)=(s.fk 0:Int):=by rw [RS.iQ];rfl
   rw [e0]
   refine zu f4 w4 hh (.inl rfl) (k:=i) (by show i<(tN (o4.cs.map lL) i z).length;rw [uJ,bA];exact hl4) rfl fun h5 q5 s5 GM f5 v5=>⟨_,rfl,?_⟩
   have c5:gD GM T4 (i+1) none T.dc.length:=t4.c.zero Df.od hc4 (by rw [Df.mv];exact fE) fun y=>by rw [v5,Df.CU]
   have t5:TR h5 q5 s5 GM tb hn T4 (i+1) none T.dc.length:=by
    refine⟨f5.g,p.l.ex f5.ex,p.pos,p.lt,?_,c5,p.tz.ex f5.ex,fun y hy=>f5.da (p.da (Df.dN y hy))⟩
    rw [f5.rt,Df.t];exact p.held
   refine⟨to-(i+1),by omega,i+1,q5,s5,GM,T4,o4,by omega,fE,rfl,rfl,rfl,rfl,rfl,by rw [bU (by omega) (by omega)];rfl,f5,t5,Df,fun y hy=>?_⟩
   rw [v5,if_neg fun e=>hy (by rw [e];exact TD.rG ho)];exact fr4 y hy
  |cons x c =>
   obtain⟨cO,pO,x1,x2,x3,bO,hO,eO,sO,xe,xk⟩:=t4.c.off Df.od hc4
   have ZN:=p.da (Df.dN _ xe)
   have hhk:=p.da (Df.dN _ xk)
   refine cr (by rw [bne_iff_ne];have:=RS.un p.g.v ZN;show (s.fk x.e:Int)≠0;omega) ?_
   refine adF f4 t4.l eO.1 ZN (k:=0) rfl rfl ⟨_,rfl,agK f4 t4.l eO.1 ZN (k:=0) rfl rfl ⟨_,rfl,?_⟩⟩
   have oO:(T4.tE o4 i c).od=some (o4.fW i c):=rfl
   have mO:(T4.tE o4 i c).mv=to:=Df.mv
   have tO:TR h4 q4 s4' nd4 tb hn (T4.tE o4 i c) i (some (z.getD x.e)) T.dc.length :=
    ⟨t4.g,t4.l,t4.pos,t4.lt,t4.held,cO,t4.tz,fun y hy=>t4.hr y (sO y hy)⟩
   have nb:∀o',(T4.tE o4 i c).od=some o'→¬(T4.tE o4 i c).mv≤bk o'.j x.hs:=fun o' ij=>by
    rw [oO]at ij
    obtain rfl:=bt ij
    rw [mO]
    show ¬to≤bk o4.j x.hs
    rw [bO];omega
   obtain⟨es,epk⟩:=U4 (T:=T4.tE o4 i c) nb (x::(T4.tE o4 i c).chain x.hs)
   have er:(s.fk x.e:Int)=(s4'.fk x.e:Int):=by rw [f4.fk]
   rw [show (lL (x::c))=x.e from rfl,er]
   refine ac6 tO hO (fun o' ij hm=>absurd hm (nb o' ij)) x1 x2 x3 (f4.da ZN) (f4.da hhk) eO.1 eO.2.1 eO.2.2 fun h5 q5 s5 GM f5 t5 v5=>⟨rfl,?_⟩
   obtain⟨y1,y2,y3,y4,y5,y6,y7,y8⟩:=(T4.tE o4 i c).zP x.hs (x::(T4.tE o4 i c).chain x.hs)
   obtain⟨r,p1,p2⟩:=cO.lS hO
   refine⟨c.length,by simp,q5,s5,GM,_,o4.fW i c,_,c,rfl,rfl,rfl,rfl,rfl,rfl,rfl,?_,f4.trans f5,t5,⟨y1.trans Df.t,y2.trans Df.df,y4.trans Df.nid,y5.trans Df.nj,by rw [es];exact oO,Df.CU,Df.oj,y3.trans mO,?_,fun y hy=>?_⟩,fun y hy=>?_⟩
   ·show (o4.cs.set i c)[i]?=_
    rw [cE (bp.1 hc4).1]
   ·refine((p2 _).trans ?_).trans (pO.symm.trans Df.lS)
    exact List.Perm.cons x p1.symm
   ·rw [TD.uN]at hy
    rcases bI.1 hy with hy|hy
    ·exact Df.dN y (sO y (bW _ hy))
    ·have hy:=(iT (((p2 (x::(T4.tE o4 i c).chain x.hs))).trans (List.Perm.cons x p1.symm))).mem_iff.1 hy
     rw [gS]at hy
     rcases ck.1 hy with rfl|hy
     ·exact Df.dN _ xe
     rcases ck.1 hy with rfl|hy
     ·exact Df.dN _ xk
     ·exact Df.dN y (sO y (bK _ hy))
   ·rw [v5,if_neg fun e=>hy (by rw [e];exact Df.dN _ (sO _ (cO.Bb x.hs))),if_neg fun e=>hy (by rw [e];exact Df.dN _ xe)]
    exact fr4 y hy
 ·obtain rfl:i=to:=by omega
  by_cases Fj:i=2 ^ o.j
  ·refine cr (by rw [beq_iff_eq,Fj]) (bw ⟨_,t3.l.c0,_,zN t3.g t3.l t3.pos t3.held ⟨rfl,rfl⟩,?_⟩)
   have tn3:=t3.c.tn
   have e0:(0:Int)=(s3'.fk 0:Int):=by rw [RS.iQ];rfl
   rw [e0]
   refine zu (wF.refl t3.g) tn3 t3.ht (.inl rfl) (k:=1) (by simp) rfl fun h5 q5 s5 GM f5 v5=>⟨_,rfl,?_⟩
   have n5:GM[T3.t]?=some ⟨4,[T3.nw.id,0],[T3.df,T.dc.length,T3.mv]⟩:=by rw [v5,if_pos rfl];rfl
   refine bw ⟨_,(t3.l.ex f5.ex).c0,_,zN (id:=T3.t) f5.g (t3.l.ex f5.ex) t3.pos (by rw [f5.rt];exact t3.held) ⟨rfl,rfl⟩,?_⟩
   have er:(s5.fk T3.t:Int)=(s3'.fk T3.t:Int):=by rw [←f5.fk]
   rw [er,RS.iQ]
   refine vO f5 n5 t3.ht (w:=0) (by omega) (k:=2) (by simp) rfl fun h6 q6 s6 Ob f6 v6=>⟨_,rfl,?_⟩
   obtain⟨c6,ee,es⟩:=t3.c.nA (gm:=Ob) st.od (by rw [st.oj];exact Fj) fun y=>by
    rw [v6,v5]
    by_cases e:y=T3.t
    ·rw [if_pos e,if_pos e];rfl
    ·rw [if_neg e,if_neg e,if_neg e]
   have le:({T3 with od:=none,mv:=0}:TD).dc.length=T.dc.length:=by rw [ee];exact st.lS.length_eq
   refine xK h6 q6 s6 Ob {T3 with od:=none,mv:=0} (by rw [ho];simp) (f3.trans f6) ⟨f6.g,t3.l.ex f6.ex,t3.pos,t3.lt,by rw [f6.rt];exact t3.held,⟨by rw [le];exact c6,nofun,⟨by show 2≤T3.nw.j;rw [st.nj];exact p.c.j2.1,nofun⟩⟩,t3.tz.ex f6.ex⟩ ?_ fun y hy=>?_
   ·refine⟨st.t,st.df,st.nid,st.nj,by rw [ee];exact st.lS,fun y hy=>st.dN y (es y hy),fun o' ij=>?_,fun e=>by rw [ho]at e;cases e⟩
    rw [ho]at ij
    obtain rfl:=bt ij
    rw [if_pos (by rw [hto]at Fj;split at Fj<;>omega)]
    exact⟨rfl,rfl⟩
   ·rw [v6,if_neg fun e=>hy (by rw [e,st.t];exact T.jO),v5,if_neg fun e=>hy (by rw [e,st.t];exact T.jO)];exact fr3 y hy
  ·refine cj (by rw [beq_eq_false_iff_ne];omega) ?_
   have fE:i<2 ^ o.j:=by omega
   have e16:i=T.mv+16:=by rw [hto];rw [hto]at fE;split at fE<;>rename_i hh<;>simp only [hh,if_true,if_false]<;>omega
   refine xK h3 q3 s3' SS T3 (by rw [ho];simp) f3 ⟨t3.g,t3.l,t3.pos,t3.lt,t3.held,⟨by rw [st.mv,st.lS.length_eq];exact t3.c,fun o' ij=>?_,⟨by rw [st.nj];exact p.c.j2.1,fun o' ij=>?_⟩⟩,t3.tz⟩ ?_ fr3
   ·rw [st.od]at ij
    obtain rfl:=bt ij
    rw [st.mv,st.oj];exact fE
   ·rw [st.od]at ij
    obtain rfl:=bt ij
    rw [st.oj];exact p.c.j2.2 o ho
   ·refine⟨st.t,st.df,st.nid,st.nj,st.lS,st.dN,fun o' ij=>?_,fun e=>by rw [ho]at e;cases e⟩
    rw [ho]at ij
    obtain rfl:=bt ij
    rw [if_neg (by omega)]
    exact⟨⟨o3,st.od,st.CU,st.oj⟩,st.mv.trans e16⟩
end
structure uB (h:Hp) (q:HQ) (s:RS) (nd:List di) (T:TD) (h':Hp) (q':HQ) (s':RS) (gm:List di) (T':TD):Prop where
 g:Gs h' q' s' gm
 n:qB nd T gm T'
 T5:wQ s'.bC s.bC
 agC:s'.bC.length≤max s.bC.length (rF s.bC+2)
 iN:s'.cM=s.cM
 ex:Ex h q h' q'
section
variable {h h' h2:Hp} {q q':HQ} {s s':RS} {nd gm:List di} {id tb hn:Nat} {T T':TD} {R:RP} {lo n hs:Nat} {z:Option Nat} {a:Sl} {x:iM} {o:rI} {key:LN}
theorem uB.jp(a:uB h q s nd T h' q' s' gm T')(p:qA h q s nd tb hn T):qA h' q' s' gm tb hn T' :=
 ⟨a.g,p.l.ex a.ex,p.pos,p.lt,by rw [a.T5,a.n.t];exact p.held,a.n.c,p.tz.ex a.ex⟩
theorem uB.cI(a:uB h q s nd T h' q' s' gm T')(k:bY N h' h2):uB h q s nd T h2 q' s' gm T' :=
 ⟨a.g.cI k,a.n,a.T5,a.agC,a.iN,a.ex.trans (Ex.pm k fun b hb=>a.g.st.fr hb)⟩
theorem uB.refl(p:qA h q s nd tb hn T):uB h q s nd T h q s nd T:=⟨p.g,qB.refl p.c,wQ.refl _,by omega,rfl,Ex.refl _ _⟩
theorem uB.fld(f:wF h q s nd h' q' s' gm)(n:qB nd T gm T'):uB h q s nd T h' q' s' gm T' :=
 ⟨f.g,n,by rw [f.rt];exact wQ.refl _,by rw [f.rt];omega,f.al.iN,f.ex⟩
theorem Stepped.sn(st:Stepped T T'):T'.sE=tM T.sE:=by
 cases ho:T.od with
 |none =>
  rw [st.sh0 ho]
  unfold tM
  rw [if_pos (IJ.2 ho)]
 |some o =>
  have h:=st.sh o ho
  have hp:=two_pos o.j
  rw [sL ho]
  unfold tM
  dsimp only
  rw [if_neg (by omega)]
  by_cases hc:2 ^ o.j≤T.mv+16
  ·rw [if_pos hc]at h ⊢
   rw [uM h.1,h.2,st.nj]
  ·rw [if_neg hc]at h ⊢
   obtain⟨⟨o',h1,h2,h3⟩,h4⟩:=h
   rw [sL h1,h3,h4,st.nj]
theorem NA(p:qA h q s nd tb hn T)(hR:∀h' q' s' gm T' b,uB h q s nd T h' q' s' gm T'→Stepped T T'→b=!decide (T.sE.2.1=0)→wF h q s nd h' q' s' gm→R (vb b) h') :
  bq PG 47 #[vp (sa tb)] h R:=by
 refine akm p (fun ho=>?_) fun h' q' s' gm T' iS f o st fr=>?_
 ·refine hR h q s nd T false (uB.refl p) ⟨rfl,rfl,rfl,rfl,fT _,fun _ h=>h,fun o' ij=>?_,fun _=>rfl⟩ ?_ (wF.refl p.g)
  ·rw [ho]at ij;cases ij
  ·rw [decide_eq_true (IJ.2 ho)];rfl
 ·refine hR h' q' s' gm T' true (uB.fld f ⟨o.c,st.t,st.df,by rw [f.len];exact bH _,fun x _ hx=>fr x hx,fun x hx=>.inl (st.dN x hx)⟩) st ?_ f
  rw [decide_eq_false fun h=>iS (IJ.1 h)];rfl
structure Iu (iN:Nat) (nd:List di) (bC:List (Option Nat)) (T:TD) (j:Nat) (gm:List di) (T':TD):Prop where
 n:qB nd T gm T'
 lS:T'.dc.Perm T.dc
 was:T.od≠none→T'.sE=T.sE
 L0:T.od=none→T'.sE=T.sE→NRm iN nd bC (1+2 ^ j)
 anw:T'.sE=T.sE→T'=T∧gm=nd
 room:T.od=none→T'.sE≠T.sE→T'.sE=(2 ^ j,2 ^ T.nw.j,0)∧Rm iN nd bC (1+2 ^ j)∧T'.dN.Perm (nd.length::T.dN)∧T'.nw.id=nd.length
theorem UG(p:qA h q s nd tb hn T){j:Nat}(hj:2≤j)(hj2:j≤20)
  (hR:∀h' q' s' gm T',Gs h' q' s' gm→Iu s.cM nd s.bC T j gm T'→s'.bC=s.bC→s'.cM=s.cM→Ex h q h' q'→R (vt #[]) h') :
  bq PG 97 #[vp (sa tb),vi ((2 ^ j:Nat):Int)] h R:=by
 have h2:=o7 hj2
 refine abF ?_
 unfold anC
 refine Ea p.tr (k:=1) rfl rfl ⟨_,rfl,?_⟩
 cases ho:T.od with
 |some o =>
  rw [TD.qV ho]
  have hh:=p.da (TD.rG ho)
  refine cr (by rw [bne_iff_ne];have:=RS.un p.g.v hh;show (s.fk o.id:Int)≠0;omega) (hR h q s nd T p.g ⟨qB.refl p.c,fT _,fun _=>rfl,fun e=>(by rw [ho]at e;cases e),fun _=>⟨rfl,rfl⟩,fun e=>by rw [ho]at e;cases e⟩ rfl rfl (Ex.refl _ _))
 |none =>
  refine cj (by rw [TD.uV ho,RS.iQ];rfl) (bw ⟨_,p.l.c0,?_⟩)
  refine A7 p.g (k:=5) (r:=2 ^ j) (w:=0) ⟨⟨by omega,by omega⟩,⟨by omega,by omega⟩,by omega,by omega⟩ rfl rfl rfl (fun h1 q1 s1 g1 er el ex hr=>?_) fun h1 q1 s1 g1 er el ZO ex hr=>?_
  ·refine⟨_,_,rfl,cr rfl (hR h1 q1 s1 nd T g1 ⟨qB.refl p.c,fT _,fun _=>rfl,fun _ _ dN lv z=>hr ((p.g.room lv _ 0).2 ?_),fun _=>⟨rfl,rfl⟩,fun _ h=>absurd rfl h⟩ er el ex)⟩
   exact z
  ·refine⟨_,_,rfl,cj rfl ?_⟩
   have p1:qA h1 q1 s1 nd tb hn T→True:=fun _=>trivial
   have l1:=p.l.ex ex
   have at0:(nd++[(⟨5,List.replicate (2 ^ j) 0,List.replicate 0 0⟩:di)])[nd.length]?=some ⟨5,List.replicate (2 ^ j) 0,[]⟩:=by
    rw [bN (bH _),dD];rfl
   have lts:∀i∈T.dN,i<nd.length:=fun i hi=>p.g.lt (p.da hi)
   have nin:nd.length∉T.dN:=fun hm=>by have:=lts _ hm;omega
   have old:∀i∈T.dN,(nd++[(⟨5,List.replicate (2 ^ j) 0,List.replicate 0 0⟩:di)])[i]?=nd[i]?:=fun i hi=>bL (lts i hi)
   have t1:qA h1 q1 s1 (nd++[(⟨5,List.replicate (2 ^ j) 0,List.replicate 0 0⟩:di)]) tb hn T :=
    ⟨g1,l1,p.pos,p.lt,by rw [er];exact p.held,p.c.eG old,p.tz.ex ex⟩
   have ht:=t1.da T.jO
   have Q5:=t1.da T.nU
   refine bw ⟨_,l1.c0,_,zN g1 l1 p.pos t1.held ⟨rfl,rfl⟩,?_⟩
   refine Ea t1.tr (k:=0) rfl rfl ⟨_,rfl,⟨_,l1.c0,rfl⟩,?_⟩
   refine zu (wF.refl g1) t1.c.g.tn ht (.inr Q5) (k:=1) (by simp) rfl fun ha qa sa nda fa va=>⟨_,rfl,?_⟩
   have na:nda[T.t]?=some ⟨4,[T.nw.id,T.nw.id],[T.df,T.dc.length,T.mv]⟩:=by rw [va,if_pos rfl];rfl
   have la:=l1.ex fa.ex
   refine bw ⟨_,la.c0,_,zN (id:=T.t) fa.g la p.pos (by rw [fa.rt];exact t1.held) ⟨rfl,rfl⟩,?_⟩
   rw [←fa.fk T.t]
   refine zu fa na ht (.inr ZO) (k:=0) (by simp) rfl fun hb qb sb ndb fb xm=>⟨_,rfl,?_⟩
   have nb2:ndb[T.t]?=some ⟨4,[nd.length,T.nw.id],[T.df,T.dc.length,T.mv]⟩:=by rw [xm,if_pos rfl];rfl
   have lb:=l1.ex fb.ex
   refine bw ⟨_,lb.c0,_,zN (id:=T.t) fb.g lb p.pos (by rw [fb.rt];exact t1.held) ⟨rfl,rfl⟩,?_⟩
   rw [←fb.fk T.t]
   refine vO fb nb2 ht (w:=0) (by omega) (k:=2) (by simp) rfl fun hc qc sc T7 fc vc=>⟨_,rfl,?_⟩
   have hv:∀i,T7[i]?=if i=T.t then some ⟨4,[nd.length,T.nw.id],[T.df,T.dc.length,0]⟩else(nd++[(⟨5,List.replicate (2 ^ j) 0,List.replicate 0 0⟩:di)])[i]?:=fun i=>by
    rw [vc,xm,va]
    by_cases e:i=T.t
    ·rw [if_pos e,if_pos e];rfl
    ·rw [if_neg e,if_neg e,if_neg e,if_neg e]
   obtain⟨c6,ee,ep⟩:=p.c.g.start ho hj2 nin (by have:=p.g.pos;omega) (gm:=T7) fun i hi=>by
    rw [hv]
    by_cases e:i=T.t
    ·rw [if_pos e,if_pos e]
    ·rw [if_neg e,if_neg e]
     rcases hi with hi|rfl
     ·rw [if_neg fun e=>nin (by rw [←e];exact hi)];exact old i hi
     ·rw [if_pos rfl];exact at0
   have azo:T7.length=nd.length+1:=by rw [fc.len];simp
   have UZ:({T with nw:=⟨nd.length,j,List.replicate (2 ^ j) []⟩,od:=some T.nw,mv:=0}:TD).sE=(2 ^ j,2 ^ T.nw.j,0):=sL rfl
   have akZ:({T with nw:=⟨nd.length,j,List.replicate (2 ^ j) []⟩,od:=some T.nw,mv:=0}:TD).sE≠T.sE:=by
    rw [UZ,uM ho]
    intro e
    have:=congrArg (fun z=>z.2.1) e
    have hp:=two_pos T.nw.j
    simp at this
   refine hR hc qc sc T7 {T with nw:=⟨nd.length,j,List.replicate (2 ^ j) []⟩,od:=some T.nw,mv:=0} fc.g ⟨⟨⟨by rw [ee];exact c6,fun o' ij=>?_,⟨hj,fun o' ij=>?_⟩⟩,rfl,rfl,by omega,fun i hi hn=>?_,fun i hi=>?_⟩,by rw [ee],fun h=>absurd ho h,fun _ h=>absurd h akZ,fun h=>absurd h akZ,fun _ _=>⟨UZ,fun dN lv=>(p.g.room lv _ 0).1 hr,ep,rfl⟩⟩ (by rw [fc.rt,er]) (fc.al.iN.trans el) (ex.trans fc.ex)
   ·obtain rfl:=bt (show some T.nw=some o' from ij)
    exact two_pos _
   ·obtain rfl:=bt (show some T.nw=some o' from ij)
    exact p.c.j2.1
   ·rw [hv,if_neg fun e=>hn (by rw [e];exact T.jO),bL hi]
   ·rcases ck.1 (ep.mem_iff.1 hi)with rfl|hi
    ·exact .inr (bH _)
    ·exact .inl hi
theorem Z4(o:TR h q s nd tb hn T lo z n)(Ud:n<9223372036854775808)(hR:R (vi (n:Nat)) h):bq PG 24 #[vp (sa tb)] h R:=by
 refine Jq ?_
 unfold acq
 refine D9 o (k:=1) rfl rfl ⟨_,rfl,?_⟩
 rw [bU (by omega) (by omega)];exact hR
theorem ac5(x:Gs h q s nd)(l:ti h q tb 0)(hR:R (vi 0) h):bq PG 24 #[vp (sa tb)] h R:=by
 refine Jq ?_
 unfold acq
 exact ac4 x l ⟨_,rfl,hR⟩
theorem qA.len(p:qA h q s nd tb hn T):T.dc.length≤2097152:=by
 have hd:=p.c.g.uo.2.1
 have h1:(T.dc.map (·.e)).Nodup:=by
  have:∀l:List iM,(iX l).Nodup→(l.map (·.e)).Nodup:=fun l=>by
   induction l with
   |nil=>exact fun _=>gQ
   |cons x l ih =>
    intro h
    rw [gS,cV,cV]at h
    rw [cU,cV]
    refine⟨fun hm=>?_,ih h.2.2⟩
    obtain⟨y,hy,e⟩:=cy.1 hm
    exact h.1 (bJ _ (e▸fJ hy))
  exact this _ hd
 have:=RS.Oy p.g.v h1 fun i hi=>by
  obtain⟨y,hy,rfl⟩:=cy.1 hi
  exact p.da (TD.pq hy)
 rwa [bA]at this
def TD.Bz(T:TD)(key:LN):Option iM:=T.dc.find? fun x=>decide (x.key=key)
theorem pz(h:T.Bz key=some x):x∈T.dc∧x.key=key:=⟨ip h,by have:=ox h;simpa using this⟩
theorem FV(h:T.Bz key=none):∀x∈T.dc,x.key≠key:=fun x hx=>by have:=mu.1 h x hx;simpa using this
theorem PU(k:oH T)(hx:x∈T.dc)(e:x.key=key):T.Bz key=some x:=by
 cases h:T.Bz key with
 |none=>exact absurd e (FV h x hx)
 |some y=>obtain⟨h1,h2⟩:=pz h;rw [k.aqq h1 hx (h2.trans e.symm)]
theorem ND(p:qA h q s nd tb hn T)(k:oH T)(rk:dZ h a.a (key.map bv)) (na:a.n=key.length) (b8:fK key)
  (wX:T.Bz key=none→∀h' r i,bY N h h'→R (vt #[uv r,vi i,uv 0]) h')
  (xK:∀pr e c h',T.Bz key=some e→T.chain e.hs=pr++e::c→e.hs=fU T.df key→bY N h h'→R (vt #[uv (s.fk (lW (T.pick e.hs) (T.pX e.hs) pr).1),vi ((lW (T.pick e.hs) (T.pX e.hs) pr).2:Nat),uv (s.fk e.e)]) h') :
  bq PG 67 #[vp (sa tb),uv (fU T.df key),.slice a.a a.n a.c] h R:=by
 have hl:=Bi T.df key
 refine akx p rk na b8 hl (fun hn=>wX ?_) fun pr e c h' hc he hk=>?_
 ·cases hf:T.Bz key with
  |none=>rfl
  |some y =>
   obtain⟨h1,h2⟩:=pz hf
   have e1:=k.hk y h1
   rw [h2]at e1
   have:=p.c.g.By h1
   rw [e1]at this
   exact absurd ⟨e1,h2⟩ (hn y this)
 ·have hm:e∈T.dc:=p.c.g.lu hl (by rw [hc];simp)
  rw [←he]at hc ⊢
  exact xK pr e c h' (PU k hm hk) hc (by rw [k.hk e hm,hk])
theorem qA.Kw(p:qA h q s nd tb hn T)(hx:x∈T.dc):x.r=0∨s.da x.r:=by
 obtain⟨n,hn⟩:=(p.c.g.TZ (p.c.g.hs x hx)).1.Uj (p.c.g.By hx)
 exact RS.C3 p.g.v p.g.sh hn.1 (p.da (TD.pq hx)) (by unfold iM.node;simp)
theorem ac7(p:qA h q s nd tb hn T)(k:oH T)(rk:dZ h a.a (key.map bv)) (na:a.n=key.length) (b8:fK key) (hl:key.length≤140737488351232)
  (wX:T.Bz key=none→∀h',bY N h h'→R (vt #[uv 0,uv 0,uv 0,vi 63]) h')
  (xK:∀e h',T.Bz key=some e→bY N h h'→R (vt #[uv (s.fk e.r),uv e.a,uv e.b,vi 0]) h') :
  bq PG 28 #[vp (sa tb),.slice a.a a.n a.c] h R:=by
 refine RB ?_
 unfold air
 have:=p.pos
 refine bw ⟨_,p.l.c1,cj (by rw [beq_eq_false_iff_ne];omega) (D9 p.tr (k:=0) rfl rfl ⟨_,rfl,Ut rk na b8 hl k.sd fun h1 k1=>⟨_,rfl,?_⟩⟩)⟩
 have p1:=p.cI k1
 refine ND p1 k (fC k1 rk) na b8 (fun hf h2 r i k2=>⟨_,_,_,rfl,cr rfl (wX hf h2 (cL k1 k2 fun _ z=>z.elim))⟩) fun pr e c h2 hf hc he k2=>⟨_,_,_,rfl,?_⟩
 have p2:=p1.cI k2
 have hm:=(pz hf).1
 obtain⟨n,GY⟩:=(p2.c.g.TZ (p2.c.g.hs e hm)).1.Uj (p2.c.g.By hm)
 have hh:=p2.da (TD.pq hm)
 refine cj (by rw [beq_eq_false_iff_ne];have:=RS.un p2.g.v hh;omega) ?_
 exact F9 p2.g p2.l GY.1 hh (k:=2) rfl rfl ⟨_,rfl,Ec p2.g p2.l GY.1 hh (k:=1) rfl rfl ⟨_,rfl,Ec p2.g p2.l GY.1 hh (k:=2) rfl rfl ⟨_,rfl,xK e h2 hf (cL k1 k2 fun _ z=>z.elim)⟩⟩⟩
theorem Sk(l:ti h q tb 0)(hR:R (vt #[uv 0,uv 0,uv 0,vi 61]) h):bq PG 28 #[vp (sa tb),.slice a.a a.n a.c] h R:=by
 refine RB ?_
 unfold air
 exact bw ⟨_,l.c1,cr rfl hR⟩
end
section
variable {h h' h2:Hp} {q q':HQ} {s s':RS} {nd gm:List di} {m:di} {id tb hn:Nat} {T T1 T':TD} {R:RP} {n hs:Nat} {z:Option Nat} {a:Sl} {x:iM} {o:rI} {key:LN}
theorem Na(k:oH T)(hs:T'.df=T.df)(p:T'.dc.Perm T.dc)(key:LN):T'.Bz key=T.Bz key:=by
 cases h:T.Bz key with
 |none =>
  cases h':T'.Bz key with
  |none=>rfl
  |some y=>obtain⟨h1,h2⟩:=pz h';exact absurd h2 (FV h y (p.mem_iff.1 h1))
 |some y =>
  obtain⟨h1,h2⟩:=pz h
  exact PU (k.lS hs p) (p.mem_iff.2 h1) h2
theorem af8(x:Gs h q s nd)(l:ti h q tb hn)(hp:1≤hn)(hd:s.bC.getD (hn-1) none=some id) (hm:nd[id]?=some m) (hh:s.da id) {k w:Nat} (hk:m.cN[k]?=some w) {i:Int} (hi:i=((m.cY.length+k:Nat):Int)) (hR:R (uv w) h) :
  bq PG 61 #[vp (sa tb),vi i] h R:=by
 refine DM ?_
 unfold Xd
 exact zN x l hp hd ⟨_,rfl,Ec x l hm hh hk hi ⟨_,rfl,hR⟩⟩
theorem akt(x:Gs h q s nd)(l:ti h q tb hn)(hp:1≤hn)(hd:s.bC.getD (hn-1) none=some id) (hm:nd[id]?=some m) (hh:s.da id) (h2:m.cY.length=2) {w:Nat} (hk:m.cN[1]?=some w) (hw:w<9223372036854775808) (hR:R (vi (w:Nat)) h) :
  bq PG 24 #[vp (sa tb)] h R:=by
 refine Jq ?_
 unfold acq
 refine af8 x l hp hd hm hh hk (by rw [h2];rfl) ⟨_,rfl,?_⟩
 rw [bU (by omega) (by omega)];exact hR
def Nk(c:Prop)[Decidable c] (iN:Nat) (nd:List di) (bC:List (Option Nat)) (T:TD) (j:Nat) (gm:List di) (T':TD):Prop:=if c then Iu iN nd bC T j gm T' else T'=T∧gm=nd
theorem NM(T:TD)(h:Nat)(c:List iM):(T.fW h c).sE=T.sE:=by
 unfold TD.sE TD.fW
 cases ho:T.od with
 |none=>rfl
 |some o =>
  dsimp only
  by_cases hm:T.mv≤bk o.j h
  ·rw [if_pos hm];rfl
  ·rw [if_neg hm];rfl
theorem IN(T:TD)(h:Nat)(c:List iM)(ok:2≤T.nw.j∧∀o,T.od=some o→2≤o.j)(mv:∀o,T.od=some o→T.mv<2 ^ o.j):
  (2≤(T.fW h c).nw.j∧∀o,(T.fW h c).od=some o→2≤o.j)∧∀o,(T.fW h c).od=some o→(T.fW h c).mv<2 ^ o.j:=by
 unfold TD.fW
 cases ho:T.od with
 |none=>exact⟨⟨ok.1,nofun⟩,nofun⟩
 |some o =>
  dsimp only
  by_cases hm:T.mv≤bk o.j h
  ·rw [if_pos hm]
   refine⟨⟨ok.1,fun o' ij=>?_⟩,fun o' ij=>?_⟩
   ·obtain rfl:=bt (show some (o.fW _ c)=some o' from ij);exact ok.2 o ho
   ·obtain rfl:=bt (show some (o.fW _ c)=some o' from ij);exact mv o ho
  ·rw [if_neg hm]
   refine⟨⟨ok.1,fun o' ij=>?_⟩,fun o' ij=>?_⟩
   ·have ij:some o=some o':=ij;exact ok.2 o' (ho.trans ij)
   ·have ij:some o=some o':=ij;exact mv o' (ho.trans ij)
theorem Z7(p:qA h q s nd tb hn T)(k:oH T)(rk:dZ h a.a (key.map bv)) (na:a.n=key.length) (b8:fK key) (hl:key.length≤140737488351232)
  (rs:∀pp,a.a=some pp→key≠[]→q.bR pp.block=.out∧pp.block<h.size)
  (amK:∀h' q' s' gm T1,T.Bz key=none→uB h q s nd T h' q' s' gm T1→Stepped T T1→R (vi 63) h')
  (vV:∀e r h' q' s' kq T1 gm T',T.Bz key=some e→qB nd T kq T1→T.dc.Perm (e::r)→T1.dc.Perm r→T1.sE=tM T.sE →
   Nk (4<2 ^ T1.nw.j∧4*T1.dc.length<2 ^ T1.nw.j) s.cM kq s.bC T1 (T1.nw.j-1) gm T'→uB h q s nd T h' q' s' gm T'→R (vi 0) h') :
  bq PG 49 #[vp (sa tb),.slice a.a a.n a.c] h R:=by
 refine Rs ?_
 unfold aik
 have wW:=p.pos
 refine bw ⟨_,p.l.c1,cj (by rw [beq_eq_false_iff_ne];omega) (NA p fun h1 q1 s1 kq T1 b1 a1 st _ f1=>⟨_,rfl,?_⟩)⟩
 have p1:=a1.jp p
 have k1:=k.lS st.df st.lS
 have rk1:dZ h1 a.a (key.map bv):=tU a1.ex.gK rk fun pp hp hn=>(have Tc:key≠[]:=fun z=>hn (by rw [z];rfl);⟨(rs pp hp Tc).2,fun hx=>hx (rs pp hp Tc).1⟩)
 refine D9 p1.tr (k:=0) rfl rfl ⟨_,rfl,?_⟩
 refine Ut rk1 na b8 hl k1.sd fun h2 kk=>⟨_,rfl,?_⟩
 have p2:=p1.cI kk
 have ef:=Na k st.df st.lS key
 refine ND p2 k1 (fC kk rk1) na b8 (fun hf h3 r i Kk=>⟨_,_,_,rfl,cr rfl (amK h3 q1 s1 kq T1 (by rw [←ef];exact hf) (a1.cI (cL kk Kk fun _ z=>z.elim)) st)⟩) fun pr e c h3 hf hc he Kk=>⟨_,_,_,rfl,?_⟩
 have p3:=p2.cI Kk
 have a3:=a1.cI (cL kk Kk fun _ z=>z.elim)
 have f3:wF h q s nd h3 q1 s1 kq:=⟨p3.g,f1.al,f1.rt,a3.ex,f1.len⟩
 have hm:=(pz hf).1
 have Do:=p3.c.g.hs e hm
 have hse:=(p3.c.g.TZ Do).1
 rw [hc]at hse
 obtain⟨GY,hkn,ok⟩:=(ou.1 hse).2.1
 have ZN:=p3.da (TD.pq hm)
 refine cj (by rw [beq_eq_false_iff_ne];have:=RS.un p3.g.v ZN;omega) (bw ⟨_,p3.l.c0,F9 p3.g p3.l GY ZN (k:=0) rfl rfl ⟨_,rfl,⟨_,p3.l.c0,rfl⟩,?_⟩⟩)
 obtain⟨mm,hmm,hmr,hmi⟩:=p3.c.Je Do hc
 obtain⟨mm2,aAi,aAg,_⟩:=p3.c.Je Do (p:=pr++[e]) (r:=c) (by rw [hc];simp)
 have hnx:lL c=0∨s1.da (lL c):=by
  cases c with
  |nil=>exact .inl rfl
  |cons y c=>exact .inr (p3.da (TD.pq (p3.c.g.lu Do (by rw [hc];simp))))
 have fE:=(bp.1 hmr).1
 refine zu (wF.refl p3.g) hmm (p3.da hmi) hnx fE rfl fun h4 q4 s4 nd4 f4 v4=>⟨_,rfl,?_⟩
 have ht:=p3.da T1.jO
 have hht:(lW (T1.pick e.hs) (T1.pX e.hs) pr).1≠T1.t:=by
  rcases tW pr with rfl|⟨pr,y,rfl⟩
  ·exact p3.c.g.n_t e.hs
  ·rw [jM]
   exact(p3.c.g.Kn (fJ (p3.c.g.lu Do (x:=y) (by rw [hc];simp)))).1
 have tn4:nd4[T1.t]?=some ⟨4,[T1.nw.id,T1.CU],[T1.df,T1.dc.length,T1.mv]⟩:=by rw [v4,if_neg (Ne.symm hht)];exact p3.c.g.tn
 have l4:=p3.l.ex f4.ex
 have o0:=p3.len
 have hd4:s4.bC.getD (hn-1) none=some T1.t:=by rw [f4.rt];exact p3.held
 refine akt f4.g l4 p3.pos hd4 tn4 (f4.da ht) rfl rfl (by omega) ⟨_,rfl,bw ⟨_,l4.c0,_,zN f4.g l4 p3.pos hd4 ⟨rfl,rfl⟩,?_⟩⟩
 obtain⟨r,pm1,pm2⟩:=p3.c.g.lS Do
 have aww:1≤T1.dc.length:=pL hm
 have ew:wrap .u64 (wrap .i64 ((T1.dc.length:Int)-1))=((T1.dc.length-1:Nat):Int):=by rw [bU (by omega) (by omega),eN (by omega) (by omega)];omega
 have ew2:wrap .i64 ((T1.dc.length:Int)-1)=((T1.dc.length-1:Nat):Int):=by rw [bU (by omega) (by omega)];omega
 rw [ew,ew2,←f4.fk T1.t]
 refine vO f4 tn4 ht (w:=T1.dc.length-1) (by omega) (k:=1) (by simp) rfl fun h5 q5 s5 GM f5 v5=>⟨_,rfl,?_⟩
 obtain⟨y1,y2,y3,y4,y5,y6,y7,y8⟩:=T1.zP e.hs (pr++c)
 have hv:∀i,GM[i]?=if i=(lW (T1.pick e.hs) (T1.pX e.hs) pr).1 then(match pr.getLast? with|none=>some ⟨5,((T1.pick e.hs).cs.map lL).set (T1.pX e.hs) (lL c),[]⟩|some y=>some (y.node (lL c)))
   else if i=T1.t then some ⟨4,[T1.nw.id,T1.CU],[T1.df,T1.dc.length-1,T1.mv]⟩else kq[i]?:=fun i=>by
  rw [v5,v4]
  by_cases e1:i=(lW (T1.pick e.hs) (T1.pX e.hs) pr).1
  ·rw [if_neg (by rw [e1];exact hht),if_pos e1,if_pos e1]
   rcases tW pr with rfl|⟨pr,y,rfl⟩
   ·have pn:=p3.c.g.HD e.hs fun _ _ _=>rfl
    have amP:kq[(T1.pick e.hs).id]?=some mm:=hmm
    rw [pn]at amP
    obtain rfl:=bt amP
    rfl
   ·rw [jM]at hmm ⊢
    have hsy:=(p3.c.g.TZ Do).1
    rw [hc,ce]at hsy
    have hy:=(ou.1 hsy).2.1.1
    rw [hy]at hmm
    obtain rfl:=bt hmm
    simp [iM.node]
  ·by_cases e2:i=T1.t
   ·rw [if_pos e2,if_neg e1,if_pos e2];rfl
   ·rw [if_neg e2,if_neg e1,if_neg e1,if_neg e2]
 have c5:=p3.c.g.cut Do hc hv
 have SJ:T1.dc.Perm (e::((pr++c)++r)):=by
  rw [hc]at pm1
  refine pm1.trans ?_
  rw [ce,ce]
  exact gT
 have pm5:=pm2 (pr++c)
 have el5:(T1.fW e.hs (pr++c)).dc.length=T1.dc.length-1:=by rw [pm5.length_eq,SJ.length_eq];simp
 obtain⟨j5,m5⟩:=IN T1 e.hs (pr++c) p3.c.j2 p3.c.mv
 have ahs:∀i∈(T1.fW e.hs (pr++c)).dN,i∈T1.dN:=fun i hi=>by
  rw [T1.uN]at hi
  rcases bI.1 hi with hi|hi
  ·exact bW _ hi
  ·refine bK _ ((iT SJ).mem_iff.2 ?_)
   rw [gS]
   exact bJ _ (bJ _ ((iT pm5).mem_iff.1 hi))
 have ok5:yT GM (T1.fW e.hs (pr++c)):=⟨by rw [y3,el5];exact c5,m5,j5⟩
 have n5:qB kq T1 GM (T1.fW e.hs (pr++c)):=by
  refine⟨ok5,y1,y2,by rw [f5.len];exact bH _,fun i _ hi=>?_,fun i hi=>.inl (ahs i hi)⟩
  rw [v5,if_neg fun e1=>hi (by rw [e1];exact T1.jO),v4,if_neg fun e1=>hi (by rw [e1];exact hmi)]
 have f05:=f3.trans f5
 have p5:qA h5 q5 s5 GM tb hn (T1.fW e.hs (pr++c)):=⟨f5.g,p3.l.ex f5.ex,p3.pos,p3.lt,by rw [f5.rt,y1];exact p3.held,ok5,p3.tz.ex f5.ex⟩
 have a5:uB h q s nd T h5 q5 s5 GM (T1.fW e.hs (pr++c)):=uB.fld f05 (a1.n.trans n5)
 have aoA:T.dc.Perm (e::((pr++c)++r)):=st.lS.symm.trans SJ
 have sh5:(T1.fW e.hs (pr++c)).sE=tM T.sE:=(NM T1 e.hs _).trans st.sn
 have hfT:T.Bz key=some e:=by rw [←ef];exact hf
 refine Ea p5.tr (k:=0) rfl rfl ⟨_,rfl,zh p5.g p5.l p5.c.g.wn (p5.da (TD.nU _)) ⟨_,rfl,?_⟩⟩
 have en:(di.mk 5 ((T1.fW e.hs (pr++c)).nw.cs.map lL) []).cY.length=2 ^ (T1.fW e.hs (pr++c)).nw.j:=p5.tr.K2
 rw [en]
 have jn:=p5.c.g.jn
 have h2j:=o7 jn
 obtain⟨j',hj'⟩:∃j',(T1.fW e.hs (pr++c)).nw.j=j'+1:=⟨(T1.fW e.hs (pr++c)).nw.j-1,by have:=p5.c.j2.1;omega⟩
 have abq:=fun h6 q6 s6 Ob T6 hE hA=>vV e ((pr++c)++r) h6 q6 s6 GM (T1.fW e.hs (pr++c)) Ob T6 hfT (a1.n.trans n5) aoA pm5 sh5 hE hA
 generalize hTT:T1.fW e.hs (pr++c)=TT at *
 have eG:∀b:Bool,(b=true→4<2 ^ TT.nw.j∧4*TT.dc.length<2 ^ TT.nw.j)→(b=false→¬(4<2 ^ TT.nw.j∧4*TT.dc.length<2 ^ TT.nw.j))→Rr (sa tb) ((2 ^ TT.nw.j:Nat):Int) b h5 R:=fun b Tj vW=>by
  unfold Rr
  refine fY (fun hb=>⟨by omega,?_⟩) fun hb=>?_
  ·have Tj:=Tj hb
   have e2:wrap .i64 (Int.tdiv ((2 ^ TT.nw.j:Nat):Int) 2)=((2 ^ j':Nat):Int):=by
    rw [hj']at h2j ⊢
    rw [mr]at h2j ⊢
    generalize 2 ^ j'=y at *
    rw [yw (by omega),bU (by omega) (by omega)];omega
   rw [e2]
   have Rb:2≤j':=by
    rcases eS j' 2 with Fe|h
    ·have:=Tj.1
     rw [hj']at this
     have h4:(2:Nat) ^ (j'+1)≤2 ^ 2:=fQ (by omega) (by omega)
     omega
    ·exact h
   refine UG p5 Rb (by omega) fun h6 q6 s6 Ob T6 g6 B er el ex=>⟨rfl,abq h6 q6 s6 Ob T6 ?_ ?_⟩
   ·unfold Nk
    rw [if_pos Tj,show TT.nw.j-1=j' by omega,←f05.rt,←f05.al.iN]
    exact B
   ·exact⟨g6,a5.n.trans B.n,by rw [er];exact a5.T5,by rw [er];exact a5.agC,el.trans a5.iN,a5.ex.trans ex⟩
  ·refine abq h5 q5 s5 GM TT ?_ a5
   unfold Nk
   rw [if_neg (vW hb)]
   exact⟨rfl,rfl⟩
 have e4:wrap .i64 ((4:Int)*((T1.dc.length-1:Nat):Int))=((4*TT.dc.length:Nat):Int):=by rw [bU (by omega) (by omega),el5];omega
 rw [e4]
 refine ca (fun Ue=>?_) fun uc=>?_
 ·have Ue:4<2 ^ TT.nw.j:=by generalize 2 ^ TT.nw.j=y at *;omega
  refine eG _ (fun hb=>⟨Ue,?_⟩) fun hb=>?_
  ·have:=of_decide_eq_true hb;generalize 2 ^ TT.nw.j=y at *;omega
  ·have:=of_decide_eq_false hb;intro z;have:=z.2;generalize 2 ^ TT.nw.j=y at *;omega
 ·have uc:¬4<2 ^ TT.nw.j:=by generalize 2 ^ TT.nw.j=y at *;omega
  exact eG false (fun hb=>by cases hb) fun _ z=>uc z.1
theorem Ix(l:ti h q tb 0)(hR:R (vi 61) h):bq PG 49 #[vp (sa tb),.slice a.a a.n a.c] h R:=by
 refine Rs ?_
 unfold aik
 exact bw ⟨_,l.c1,cr rfl hR⟩
end
end Go.Ev
