/- Memory by parts: blocks by number, what lies. No condition. -/
import Derived.Test.YtjigacanjlppiaaGreatDoorP9
import Derived.Laws.Externs
set_option linter.all false
set_option maxRecDepth 1000000
open Go.IntKind (wrap)
namespace Go.Ev
structure Mem where
 loc:Nat→Option Nat
 fM:Nat→LV
structure Sep (h:Hp) (M:Mem):Prop where
 row:∀x b,M.loc x=some b→eM h b (M.fM x)
 inj:∀x y b,M.loc x=some b→M.loc y=some b→x=y
def Mem.own(M:Mem)(b:Nat):Prop:=∃x,M.loc x=some b
def Mem.jR(M:Mem)(x:Nat)(b:Option Nat)(c:LV):Mem:=⟨fun y=>if y=x then b else M.loc y,fun y=>if y=x then c else M.fM y⟩
theorem Mem.gM(M:Mem)(x:Nat)(b:Option Nat)(c:LV):(M.jR x b c).loc x=b:=if_pos rfl
theorem Mem.jT(M:Mem)(x:Nat)(b:Option Nat)(c:LV):(M.jR x b c).fM x=c:=if_pos rfl
theorem Mem.fR(M:Mem){x y:Nat}(b:Option Nat)(c:LV)(h:y≠x):(M.jR x b c).loc y=M.loc y:=if_neg h
theorem Mem.gr(M:Mem){x y:Nat}(b:Option Nat)(c:LV)(h:y≠x):(M.jR x b c).fM y=M.fM y:=if_neg h
def ui(h:Hp)(M:Mem)(h':Hp)(M':Mem):Prop:=bY M.own h h'∧∀b,M'.own b→M.own b∨h.size≤b
section
variable {h h' h2:Hp} {M M' M2:Mem}
theorem ui.refl(h:Hp)(M:Mem):ui h M h M:=⟨bY.refl _ _,fun _=>.inl⟩
theorem ui.trans(a:ui h M h' M')(b:ui h' M' h2 M2):ui h M h2 M2 :=
 ⟨⟨bP a.1.1 b.1.1,fun i hi hn=>(b.1.2 i (bZ hi a.1.1) fun o=>(a.2 i o).elim hn fun h=>by omega).trans (a.1.2 i hi hn)⟩,
  fun i o=>(b.2 i o).elim (a.2 i) fun h=>.inr (bP a.1.1 h)⟩
theorem ui.pm (k:bY (fun _=>False) h h'):ui h M h' M:=⟨k.mono fun _ _ e=>e.elim,fun _=>.inl⟩
theorem Sep.lt(s:Sep h M){x b:Nat}(hx:M.loc x=some b):b<h.size:=eE (s.row x b hx)
theorem Sep.zT(s:Sep h M){b:Nat}(hb:M.own b):b<h.size:=by obtain⟨x,hx⟩:=hb;exact s.lt hx
theorem Sep.eG(s:Sep h M){S:Nat→Prop}(k:bY S h h')(hS:∀b,M.own b→¬S b):Sep h' M:=⟨fun x b hx=>bF k (s.row x b hx) (hS b ⟨x,hx⟩),s.inj⟩
theorem Sep.cI(s:Sep h M)(k:bY (fun _=>False) h h'):Sep h' M:=s.eG k fun _ _ e=>e
theorem Sep.cell(s:Sep h M){x b:Nat}(hx:M.loc x=some b)(o:Nat):Go.Ev.cell h ⟨b,o,none⟩=(M.fM x)[o]?:=bS (s.row x b hx) o
theorem Sep.FP(s:Sep h M){x b:Nat}(hx:M.loc x=some b)(o:Nat):Go.Ev.cell h ((ad b).add o)=(M.fM x)[o]?:=by rw [cm];exact s.cell hx o
theorem Sep.Zd(s:Sep h M){x b:Nat}(hx:M.loc x=some b):Go.Ev.cell h (ad b)=(M.fM x)[0]?:=s.cell hx 0
theorem Sep.st(s:Sep h M){x b o:Nat}(hx:M.loc x=some b){a:Addr}{v:Value}(ha:a=⟨b,o,none⟩)(ho:o<(M.fM x).length) {K:Hp→Prop}
  (hK:∀h',Sep h' (M.jR x (some b) ((M.fM x).set o v))→ui h M h' (M.jR x (some b) ((M.fM x).set o v))→K h'):gZ h a∧gi (fy h a v) fun h'=>K h':=by
 subst ha
 refine⟨jH (s.row x b hx) ho,hK _ ⟨fun y c hy=>?_,fun y z c hy hz=>?_⟩ ⟨?_,fun c hc=>?_⟩⟩
 ·by_cases e:y=x
  ·subst e
   rw [Mem.gM]at hy
   obtain rfl:=bt hy
   rw [Mem.jT]
   exact hG (s.row y b hx) o v
  ·rw [Mem.fR _ _ _ e]at hy
   rw [Mem.gr _ _ _ e]
   exact nh (s.row y c hy) v fun(e':c=b)=>e (s.inj y x b (e'▸hy) hx)
 ·have loc:∀w,(M.jR x (some b) ((M.fM x).set o v)).loc w=some c→M.loc w=some c:=fun w hw=>by
   by_cases e:w=x
   ·subst e;rw [Mem.gM]at hw;rw [hx];exact hw
   ·rwa [Mem.fR _ _ _ e]at hw
  exact s.inj y z c (loc y hy) (loc z hz)
 ·exact gf h o v ⟨x,hx⟩
 ·obtain⟨y,hy⟩:=hc
  by_cases e:y=x
  ·subst e;rw [Mem.gM]at hy;obtain rfl:=bt hy;exact .inl ⟨y,hx⟩
  ·rw [Mem.fR _ _ _ e]at hy;exact .inl ⟨y,hy⟩
theorem Sep.QC(s:Sep h M){x:Nat}{ob:Option Nat}{c:LV}(k:bY (fun b=>M.loc x=some b) h h') (hr:∀b,ob=some b→eM h' b c) (hn:∀b,ob=some b→M.loc x=some b∨h.size≤b) :
  Sep h' (M.jR x ob c)∧ui h M h' (M.jR x ob c):=by
 have lo:∀y c',y≠x→M.loc y=some c'→c'<h.size:=fun y c' _ hy=>s.lt hy
 refine⟨⟨fun y c' hy=>?_,fun y z c' hy hz=>?_⟩,⟨k.mono fun b _ e=>⟨x,e⟩,fun b hb=>?_⟩⟩
 ·by_cases e:y=x
  ·subst e
   rw [Mem.gM]at hy
   rw [Mem.jT]
   exact hr c' hy
  ·rw [Mem.fR _ _ _ e]at hy
   rw [Mem.gr _ _ _ e]
   exact bF k (s.row y c' hy) fun e'=>e (s.inj y x c' hy e')
 ·by_cases e:y=x<;>by_cases e2:z=x
  ·rw [e,e2]
  ·subst e
   rw [Mem.gM]at hy
   rw [Mem.fR _ _ _ e2]at hz
   rcases hn c' hy with h1|h1
   ·exact absurd (s.inj z y c' hz h1) e2
   ·have:=s.lt hz;omega
  ·subst e2
   rw [Mem.gM]at hz
   rw [Mem.fR _ _ _ e]at hy
   rcases hn c' hz with h1|h1
   ·exact absurd (s.inj y z c' hy h1) e
   ·have:=s.lt hy;omega
  ·rw [Mem.fR _ _ _ e]at hy
   rw [Mem.fR _ _ _ e2]at hz
   exact s.inj y z c' hy hz
 ·obtain⟨y,hy⟩:=hb
  by_cases e:y=x
  ·subst e
   rw [Mem.gM]at hy
   exact(hn b hy).imp_left fun h=>⟨y,h⟩
  ·rw [Mem.fR _ _ _ e]at hy;exact .inl ⟨y,hy⟩
theorem Sep.push(s:Sep h M)(x:Nat)(arr:Array Value)(t:TypeId):Sep (h.push (.cells arr t)) (M.jR x (some h.size) arr.toList)∧ui h M (h.push (.cells arr t)) (M.jR x (some h.size) arr.toList) :=
 s.QC (cF _ _ _) (fun b e=>by obtain rfl:=bt e;exact du h arr t) fun b e=>.inr (by obtain rfl:=bt e;exact bH _)
theorem Sep.drop(s:Sep h M)(x:Nat)(c:LV):Sep h (M.jR x none c)∧ui h M h (M.jR x none c):=s.QC (bY.refl _ _) (fun b e=>by cases e) fun b e=>by cases e
end
structure kO (sz:Nat) (M:Mem) (x:Nat) (s:Sl) (vs:LV):Prop where
 len:vs.length=s.n*sz
 nil:M.loc x=none→s.a=none∧s.n=0∧s.c=0
 row:∀b,M.loc x=some b→s.a=some (ad b)∧s.n≤s.c∧∃ic,M.fM x=vs++ic∧vs.length+ic.length=s.c*sz
section
variable {h h':Hp} {M:Mem} {sz x y:Nat} {s:Sl} {vs:LV}
theorem kO.akY(i:kO sz M x s vs)(p:Sep h M):kM sz h s.a s.n s.c (M.loc x) vs :=
 ⟨i.len,i.nil,fun b hb=>by obtain⟨h1,h2,j,h3,h4⟩:=i.row b hb;exact⟨h1,h2,j,by rw [←h3];exact p.row x b hb,h4⟩⟩
theorem kO.oR(i:kO sz M y s vs){b:Option Nat}{c:LV}(h:y≠x):kO sz (M.jR x b c) y s vs :=
 ⟨i.len,fun e=>i.nil (by rwa [Mem.fR _ _ _ h]at e),fun b' e=>by
  rw [Mem.fR _ _ _ h]at e
  rw [Mem.gr _ _ _ h]
  exact i.row b' e⟩
theorem kO.aag(i:kO sz M x s vs)(hn:vs≠[]):∃b,M.loc x=some b∧s.a=some (ad b):=by
 cases hl:M.loc x with
 |none =>
  have:=(i.nil hl).2.1
  have:=i.len
  exact absurd (dA.1 (by rw [i.len,‹s.n=0›];omega)) hn
 |some b=>exact⟨b,rfl,(i.row b hl).1⟩
theorem kO.at(i:kO sz M x s vs)(p:Sep h M){o:Nat}{v:Value}(hv:vs[o]?=some v):∃b,M.loc x=some b∧s.a=some (ad b)∧cell h ⟨b,o,none⟩=some v:=by
 have ho:=(bp.1 hv).1
 obtain⟨b,hb,ha⟩:=i.aag (fun e=>by rw [e]at ho;simp at ho)
 obtain⟨_,_,j,h3,_⟩:=i.row b hb
 exact⟨b,hb,ha,by rw [p.cell hb,h3,bL ho];exact hv⟩
theorem kO.set(i:kO sz M x s vs){b o:Nat}(hb:M.loc x=some b)(v:Value)(ho:o<vs.length):o<(M.fM x).length∧kO sz (M.jR x (some b) ((M.fM x).set o v)) x s (vs.set o v):=by
 obtain⟨h1,h2,j,h3,h4⟩:=i.row b hb
 refine⟨by rw [h3,bG];omega,⟨by rw [cd];exact i.len,(fun e=>by rw [Mem.gM]at e;cases e),fun b' e=>?_⟩⟩
 rw [Mem.gM]at e
 obtain rfl:=bt e
 rw [Mem.jT]
 exact⟨h1,h2,j,by rw [h3,lB _ _ ho],by rw [cd];exact h4⟩
theorem kO.app {e ze:Nat}{z:Array Value}{m:Nat}{fz:LV}{K:OA→Nat→Nat→Hp→Prop}(i:kO sz M x s vs)(p:Sep h M)(hz:z.size=sz)(hl:fz.length=m*sz)(kY:∀v∈fz,mj v=true)
  (HZ:(2*(s.n+m)+768)*ze≤2 ^ 48) (fE:s.n+m<2 ^ 62)
  (hK:∀a' c' h' ob c,Sep h' (M.jR x ob c)→kO sz (M.jR x ob c) x ⟨a',s.n+m,c'⟩ (vs++fz)→ui h M h' (M.jR x ob c)→K a' (s.n+m) c' h'):Av e sz ze z s.a s.n s.c (s.n+m) fz h K:=by
 refine yp (i.akY p) hz hl kY HZ fE fun a' c' jK h' s' vj=>?_
 have nA:∀c,(∀b,jK=some b→eM h' b c)→(∀b,jK=some b→a'=some (ad b)∧s.n+m≤c'∧∃ic,c=(vs++fz)++ic∧(vs++fz).length+ic.length=c'*sz)→K a' (s.n+m) c' h':=fun c hr hs=>by
  have k:bY (fun b=>M.loc x=some b) h h':=by
   rcases vj with⟨_,k⟩|⟨_,k⟩
   ·exact k
   ·exact k.mono fun _ _ e=>e.elim
  have hn:∀b,jK=some b→M.loc x=some b∨h.size≤b:=fun b e=>by
   rcases vj with⟨q,_⟩|⟨q,_⟩
   ·exact .inl (q▸e)
   ·rw [q]at e;obtain rfl:=bt e;exact .inr (bH _)
  obtain⟨q1,q2⟩:=p.QC (x:=x) k hr hn
  refine hK a' c' h' jK c q1 ⟨s'.len,fun e=>?_,fun b e=>?_⟩ q2
  ·rw [Mem.gM]at e;exact s'.nil e
  ·rw [Mem.gM]at e
   rw [Mem.jT]
   exact hs b e
 cases ho:jK with
 |none=>exact nA [] (fun b e=>by rw [ho]at e;cases e) fun b e=>by rw [ho]at e;cases e
 |some b =>
  obtain⟨q1,q2,j,q3,q4⟩:=s'.row b ho
  refine nA ((vs++fz)++j) (fun b' e=>?_) fun b' e=>?_
  ·rw [ho]at e;obtain rfl:=bt e;exact q3
  ·rw [ho]at e;obtain rfl:=bt e;exact⟨q1,q2,j,rfl,q4⟩
theorem kO.aoU {e ze:Nat}{z arr:Array Value}{t:TypeId}{K:OA→Nat→Nat→Hp→Prop}(i:kO sz M x s vs)(p:Sep h M)(hz:z.size=sz)(hl:arr.toList.length=1*sz)(kY:∀v∈arr.toList,mj v=true)
  (HZ:(2*(s.n+1)+768)*ze≤2 ^ 48) (fE:s.n+1<2 ^ 62)
  (hK:∀a' c' h' ob c,Sep h' (M.jR x ob c)→kO sz (M.jR x ob c) x ⟨a',s.n+1,c'⟩ (vs++arr.toList)→ui h M h' (M.jR x ob c)→K a' (s.n+1) c' h') :
  gi (h.push (.cells arr t)) fun h2=>im e sz ze z s.a s.n s.c (some (nb h)) 1 h2 K:=by
 show (fun h2=>im e sz ze z s.a s.n s.c (some (nb h)) 1 h2 K) (h.push (.cells arr t))
 generalize e2:h.push (.cells arr t)=h2
 have e2:=e2.symm
 have k2:bY (fun _=>False) h h2:=e2▸cF _ _ _
 have mi:eM h2 h.size arr.toList:=e2▸du h arr t
 exact⟨arr.toList,lQ mi (fun j v hj=>by rw [fo];exact hj),hl,i.app (p.cI k2) hz hl kY HZ fE fun a' c' h' ob c q1 q2 q3=>hK a' c' h' ob c q1 q2 ((ui.pm k2).trans q3)⟩
end
open Go.Proofs
section
variable {h h':Hp}
theorem gN {α:Type}{f:α→LV}{sz:Nat}(hf:∀x,(f x).length=sz):∀l:List α,(l.flatMap f).length=l.length*sz
 | []=>by simp
 |x::l=>by rw [cJ,bG,hf,gN hf l,dF,hY];omega
theorem ml {α:Type}{f:α→LV}{sz:Nat}(hf:∀x,(f x).length=sz):∀(l:List α) (i j:Nat) (x:α),l[i]?=some x→j<sz→(l.flatMap f)[i*sz+j]?=(f x)[j]?
 | [],_,_,_,h,_=>by simp at h
 |y::l,0,j,x,h,hj=>by
  obtain rfl:y=x:=by simpa using h
  rw [cJ,pG,fo,bL (by rw [hf];exact hj)]
 |y::l,i+1,j,x,h,hj=>by
  rw [cJ,bN (by rw [hf,hY];omega),hf]
  have e:(i+1)*sz+j-sz=i*sz+j:=by rw [hY];omega
  rw [e]
  exact ml hf l i j x (by simpa using h) hj
theorem Fq {α:Type}{f:α→LV}{sz:Nat}(hf:∀x,(f x).length=sz):∀(l:List α) (i j:Nat) (x x':α) (v:Value),l[i]?=some x→j<sz→f x'=(f x).set j v→(l.flatMap f).set (i*sz+j) v=(l.set i x').flatMap f
 | [],_,_,_,_,_,h,_,_=>by simp at h
 |y::l,0,j,x,x',v,h,hj,e=>by
  obtain rfl:y=x:=by simpa using h
  rw [cJ,pG,fo,lB _ _ (by rw [hf];exact hj),jD,cJ,e]
 |y::l,i+1,j,x,x',v,h,hj,e=>by
  rw [cJ,gp _ _ (by rw [hf,hY];omega),hf,fg,cJ]
  have e2:(i+1)*sz+j-sz=i*sz+j:=by rw [hY];omega
  rw [e2,Fq hf l i j x x' v (by simpa using h) hj e]
theorem N1 {h h':Hp}{S:Nat→Prop}(k:bY S h h'){a:OA}{vs:LV}(r:dZ h a vs)(hS:∀p,a=some p→p.block<h.size∧¬S p.block):dZ h' a vs:=by
 cases a with
 |none=>exact r
 |some p =>
  obtain⟨h1,h2⟩:=hS p rfl
  have e:=k.2 _ h1 h2
  intro j v hv
  have:=r j v hv
  unfold cell at this ⊢
  have eb:(p.add j).block=p.block:=by unfold Addr.add;split<;>rfl
  rw [eb]at this ⊢
  rw [e]
  exact this
theorem tU {h h':Hp}{S:Nat→Prop}(k:bY S h h'){a:OA}{vs:LV}(r:dZ h a vs)(hS:∀p,a=some p→vs≠[]→p.block<h.size∧¬S p.block):dZ h' a vs:=by
 by_cases hv:vs=[]
 ·subst hv
  cases a with
  |none=>rfl
  |some p=>intro j v hv;simp at hv
 ·exact N1 k r fun p hp=>hS p hp hv
theorem fC {h h':Hp}(k:bY (fun _=>False) h h') {a:OA} {vs:LV} (r:dZ h a vs):dZ h' a vs:=by
 refine tU k r fun p hp hv=>⟨?_,id⟩
 subst hp
 cases vs with
 |nil=>exact absurd rfl hv
 |cons v vs =>
  have h0:cell h (p.add 0)=some v:=r 0 v rfl
  unfold cell at h0
  have eb:(p.add 0).block=p.block:=by unfold Addr.add;rfl
  rw [eb]at h0
  by_cases hl:p.block<h.size
  ·exact hl
  ·rw [jh (by omega)]at h0
   cases h0
theorem yV {o:OA}{a:Addr}{K:Addr→Prop}(e:o=some a)(h:K a):bE o K:=e▸h
theorem ni {h:Hp}{a:OA}{vs:LV}(r:dZ h a vs){i:Nat}{v:Value}(hv:vs[i]?=some v):∃p,a=some p∧cell h (p.add i)=some v:=by
 cases a with
 |none =>
  have e:vs=[]:=r
  rw [e]at hv
  cases hv
 |some p=>exact⟨p,rfl,r i v hv⟩
theorem lq {h:Hp}{b:Nat}{vs:LV}(r:eM h b vs):dZ h (sa b) vs:=lQ r fun j v hv=>by rw [fo];exact hv
theorem qJ(p:Addr)(a b:Nat):(p.add a).add b=p.add (a+b):=by
 unfold Addr.add
 by_cases ha:a=0
 ·subst ha;simp
 ·by_cases hb:b=0
  ·subst hb;simp
  ·rw [if_neg ha,if_neg hb,if_neg (by omega),mL]
end
structure HQ where
 hb:Nat
 bR:Nat→io
 G:xd
 sp:List dg
structure He (h:Hp) (q:HQ) (s:RS):Prop where
 rp:dP h q.hb q.bR (s.dM q.sp) q.G
 v:s.Inv
def Ex(h:Hp)(q:HQ)(h':Hp)(q':HQ):Prop:=q'.hb=q.hb∧iV h q.bR h' q'.bR
def Kg(h:Hp)(q:HQ)(s':RS)(r:Value)(R:RP):Prop:=∀h' q',He h' q' s'→Ex h q h' q'→R r h'
section
variable {h h' h2:Hp} {q q' q2:HQ} {s:RS} {nd:List di} {b t:LN} {id:Nat} {R:RP}
theorem Ex.refl(h:Hp)(q:HQ):Ex h q h q:=⟨rfl,iV.refl _ _⟩
theorem Ex.trans(a:Ex h q h' q')(b:Ex h' q' h2 q2):Ex h q h2 q2:=⟨b.1.trans a.1,a.2.trans b.2⟩
theorem Ex.pm(k:bY N h h')(fr:∀b,h.size≤b→q.bR b=.out):Ex h q h' q:=⟨rfl,k.1,fun b hb ho=>⟨ho,k.2 b hb id⟩⟩
theorem Ex.gK(e:Ex h q h' q'):bY (fun b=>q.bR b≠.out) h h':=⟨e.2.1,fun b hb hn=>(e.2.2 b hb (iq hn)).2⟩
theorem He.cI(x:He h q s)(k:bY N h h'):He h' q s:=⟨x.rp.eG k fun _ e=>e.elim,x.v⟩
theorem He.fr(x:He h q s){b:Nat}(hb:h.size≤b):q.bR b=.out:=x.rp.fresh b hb
theorem Ex.out(e:Ex h q h' q'){b:Nat}(hb:b<h.size)(ho:q.bR b=.out):q'.bR b=.out:=(e.2.2 b hb ho).1
theorem Zf(x:He h q s){r:Nat}(hr:r<18446744073709551616){i:Int}{w:Nat}(hw:w<18446744073709551616)(hR:Kg h q (s.iI r i w).1 (vi (s.iI r i w).2) R) :
  bq PG 92 #[vp (sa q.hb),uv r,vi i,uv w] h R :=
 abd x.v x.rp hr hw fun h' cR G' wR ex=>hR h' ⟨q.hb,cR,G',q.sp⟩ ⟨wR,x.v.set _ _ hw⟩ ⟨rfl,ex⟩
theorem PO(x:He h q s){r:Nat}(hr:r<18446744073709551616){f:Int}(Tf:-9223372036854775808≤f)(Te:f<9223372036854775808){a:Sl}{cs:LN}(hs:dZ h a.a (cs.map bv)) (Kl:a.n=cs.length) (Km:fK cs)
  (hsb:∀p,a.a=some p→cs≠[]→q.bR p.block=.out) (hn:(cs.length:Int)<9223372036854775808) (hR:Kg h q (s.jS r f cs).1 (vi (s.jS r f cs).2) R) :
  bq PG 184 #[vp (sa q.hb),uv r,vi f,.slice a.a a.n a.c] h R :=
 Jb x.v x.rp hr Tf Te hs Kl Km hsb hn fun h' cR G' wR ex=>hR h' ⟨q.hb,cR,G',q.sp⟩ ⟨wR,x.v.U5 _ _ Km⟩ ⟨rfl,ex⟩
theorem R0(x:He h q s){k r w:Int}(hR:Kg h q (s.alloc k r w).1 (vt #[uv (s.alloc k r w).2.1,vi (s.alloc k r w).2.2]) R) :
  bq PG 96 #[vp (sa q.hb),vi k,vi r,vi w] h R :=
 Tk x.v x.rp fun h' cR G' uK wR ex=>hR h' ⟨q.hb,cR,G',uK⟩ ⟨wR,x.v.alloc _ _ _⟩ ⟨rfl,ex⟩
theorem Zg(x:He h q s)(hl:s.bC.length<100000000){r:Nat}(hr:r<18446744073709551616)(hR:Kg h q (s.uR r).1 (vt #[vi ((s.uR r).2.1:Nat),vi (s.uR r).2.2]) R) :
  bq PG 90 #[vp (sa q.hb),uv r] h R :=
 Ws x.v x.rp hl hr fun h' cR G' wR ex=>hR h' ⟨q.hb,cR,G',q.sp⟩ ⟨wR,x.v.root hl⟩ ⟨rfl,ex⟩
theorem ai1(x:He h q s){n:Int}(hR:Kg h q (s.yc n).1 (vi (s.yc n).2) R):bq PG 84 #[vp (sa q.hb),vi n] h R :=
 WD x.v x.rp fun h' cR G' wR ex=>hR h' ⟨q.hb,cR,G',q.sp⟩ ⟨wR,x.v.drop _⟩ ⟨rfl,ex⟩
theorem TE(x:He h q s)(hR:Kg h q s.collect (vt #[]) R):bq PG 32 #[vp (sa q.hb)] h R :=
 LP x.v x.rp fun h' cR G' uK wR ex=>hR h' ⟨q.hb,cR,G',uK⟩ ⟨wR,x.v.collect⟩ ⟨rfl,ex⟩
theorem Zh(x:He h q s){n:Int}(hR:Kg h q (s.lG n).1 (vi (s.lG n).2) R):bq PG 42 #[vp (sa q.hb),vi n] h R :=
 Oq x.v x.rp fun h' cR G' uK wR ex=>hR h' ⟨q.hb,cR,G',uK⟩ ⟨wR,x.v.lG n⟩ ⟨rfl,ex⟩
theorem aoN(x:He h q s){n:Int}(hR:R (vt #[uv (s.atF n).1,vi (s.atF n).2]) h):bq PG 91 #[vp (sa q.hb),vi n] h R:=ah6 x.v x.rp hR
theorem Uq {n:Nat}(hn:n<100000000)(hR:R (vi (dH n:Nat)) h):bq PG 161 #[vi (n:Nat)] h R:=by
 refine Mr ?_
 unfold X0
 refine ca (fun fE=>?_) fun o5=>⟨by omega,?_⟩
 ·have:dH n=0:=by unfold dH;omega
  rw [this]at hR
  exact hR
 ·have e:wrap .i64 (wrap .i64 (Int.tdiv (wrap .i64 ((n:Int)-1)) 8)+1)=(dH n:Int):=by
   rw [bU (x:=(n:Int)-1) (by omega) (by omega),fD (by omega),bU (x:=((n:Int)-1) / 8) (by omega) (by omega),bU (by omega) (by omega)]
   unfold dH
   omega
  rw [e]
  exact hR
theorem Sf {n:Nat}(hn:n<100000000)(hR:R (vi (dH n:Nat)) h):bq PG 220 #[vi (n:Nat)] h R:=by
 refine XE ?_
 unfold aeE
 refine ca (fun fE=>?_) fun o5=>⟨by omega,by omega,?_⟩
 ·have:dH n=0:=by unfold dH;omega
  rw [this]at hR
  exact hR
 ·rw [Int.tmod_eq_emod_of_nonneg (by omega),fD (by omega)]
  refine ca (fun hm=>?_) fun hm=>?_
  ·have e:wrap .i64 (wrap .i64 ((n:Int) / 8)+1)=(dH n:Int):=by
    rw [bU (x:=(n:Int) / 8) (by omega) (by omega),bU (by omega) (by omega)];unfold dH;omega
   rw [e];exact hR
  ·have e:wrap .i64 ((n:Int) / 8)=(dH n:Int):=by
    rw [bU (by omega) (by omega)];unfold dH;omega
   rw [e];exact hR
structure Zs (h:Hp) (q:HQ) (a:Sl) (b:LN):Prop where
 rd:dZ h a.a (b.map bv)
 n:a.n=b.length
 b8:fK b
 out:∀p,a.a=some p→b≠[]→q.bR p.block=.out∧p.block<h.size
theorem Zs.ex {a:Sl}(e:Zs h q a b)(x:Ex h q h' q'):Zs h' q' a b :=
 ⟨tU x.gK e.rd fun p hp hn=>(have Tc:b≠[]:=fun z=>hn (by rw [z];rfl);⟨(e.out p hp Tc).2,fun hx=>hx (e.out p hp Tc).1⟩),e.n,e.b8,fun p hp hn=>⟨x.out (e.out p hp hn).2 (e.out p hp hn).1,bZ (e.out p hp hn).2 x.2.1⟩⟩
theorem Zp(s:RS)(v:s.Inv)(sh:s.vH nd)(k r w:Int):(s.alloc k r w).2.1<18446744073709551616:=by
 rcases RS.yq v k r w with⟨_,e⟩|⟨_,t,st,vtx,e|⟨t',fk,e,n⟩⟩
 ·rw [e];show (0:Nat)<_;omega
 ·rw [e];show (0:Nat)<_;omega
 ·have v':t'.Inv:=by have:=v.alloc k r w;rw [e]at this;exact this
  rw [e]
  show fk<_
  rw [←n.fk]
  exact RS.qi v' (.inr ((n.da _).2 (.inl rfl)))
theorem ahh(x:He h q s)(sh:s.vH nd)(ok:Ko b){a:Sl}(sr:Zs h q a b)(hR:Kg h q (s.y9 b).1 (vt #[uv (s.y9 b).2.1,vi (s.y9 b).2.2]) R) :
  bq PG 139 #[vp (sa q.hb),.slice a.a a.n a.c] h R:=by
 have hl:=ok.len
 have hw:dH b.length≤513:=by unfold dH;omega
 refine Yn ?_
 unfold afg
 rw [sr.n]
 refine Uq (by omega) ⟨_,rfl,?_⟩
 have e1:wrap .i64 ((1:Int)+(dH b.length:Int))=((1+dH b.length:Nat):Int):=by rw [bU (by omega) (by omega)];omega
 rw [e1]
 have HU:=Zp s x.v sh 1 0 ((1+dH b.length:Nat):Int)
 refine R0 x fun h1 q1 x1 G0=>⟨_,_,rfl,?_⟩
 unfold RS.y9 at hR
 by_cases h0:(s.alloc 1 0 ((1+dH b.length:Nat):Int)).2.2=0
 ·rw [if_pos h0]at hR
  refine cj (by rw [h0];rfl) ?_
  have ew:wrap .u64 (b.length:Int)=(b.length:Int):=eN (by omega) (by omega)
  rw [ew,←G0.1]
  refine Zf x1 HU (by omega) fun h2 q2 x2 ex2=>⟨_,rfl,?_⟩
  have aov:=G0.trans ex2
  have TX:Zs h2 q2 ⟨a.a,b.length,a.c⟩ b:=by have:=sr.ex aov;exact⟨this.rd,rfl,this.b8,this.out⟩
  rw [←ex2.1]
  exact PO (f:=8) (a:=⟨a.a,b.length,a.c⟩) x2 HU (by omega) (by omega) TX.rd TX.n TX.b8 (fun p hp hn=>(TX.out p hp hn).1) (by omega) fun h3 q3 x3 ex3=>⟨_,rfl,hR h3 q3 x3 (aov.trans ex3)⟩
 ·rw [if_neg h0]at hR
  refine cr (by simpa using h0) (hR h1 q1 x1 G0)
theorem P2.dS(v:s.Inv)(x:s.P2 id b)(ok:Ko b):s.uW (s.fk id)=((1,0,1+dH b.length),0):=by
 unfold RS.uW
 rw [RS.jy v (.inr x.da),if_neg x.nz,x.kind,x.cY,RS.EM x ok]
 rfl
theorem P2.len(v:s.Inv)(x:s.P2 id b)(ok:Ko b):s.Cd (s.fk id) 0=(b.length,0):=by
 have h0:(s.dS id).cN[0]?=some b.length:=by
  have hl:=RS.EM x ok
  have:=ok.is.h0
  rw [←x.cN,bB,br (by omega)]at this
  rw [br (by omega)]
  exact congrArg some this
 have:=RS.LZ v (k:=0) x.da x.nz h0
 rw [x.cY]at this
 exact this
theorem Wb(x:He h q s)(B:s.P2 id b)(ok:Ko b)(hR:R (vt #[vi (b.length:Nat),vi 0]) h):bq PG 196 #[vp (sa q.hb),uv (s.fk id)] h R:=by
 have hl:=ok.len
 have HU:=RS.qi x.v (.inr B.da)
 refine XI ?_
 unfold aeI
 refine qr x.v x.rp HU ⟨_,_,_,_,rfl,?_⟩
 rw [P2.dS x.v B ok]
 refine cj rfl ?_
 show Ju (sa q.hb) (s.fk id:Int) false h R
 unfold Ju
 refine cj rfl (DH x.v x.rp HU ⟨_,_,rfl,?_⟩)
 rw [P2.len x.v B ok]
 have e:wrap .i64 (b.length:Int)=(b.length:Int):=bU (by omega) (by omega)
 show R (vt #[vi (wrap .i64 (b.length:Int)),vi 0]) h
 rw [e]
 exact hR
def acW(b:LN)(f n:Int):Prop:=0≤f∧0≤n∧f≤(b.length:Int)∧n≤(b.length:Int)-f
theorem UU(x:He h q s)(B:s.P2 id b)(ok:Ko b){f n:Int}(hf:-9223372036854775808≤f∧f<9223372036854775808)(hn:-9223372036854775808≤n∧n<9223372036854775808)
  (jz:¬acW b f n→R (vt #[.slice none 0 0,vi 42]) h)
  (mD:∀c h',acW b f n→eM h' c (((b.drop f.toNat).take n.toNat).map bv)→h.size≤c→bY N h h'→R (vt #[.slice (sa c) n.toNat n.toNat,vi 0]) h') :
  bq PG 197 #[vp (sa q.hb),uv (s.fk id),vi f,vi n] h R:=by
 have hl:=ok.len
 have HU:=RS.qi x.v (.inr B.da)
 refine XH ?_
 unfold aeH
 refine Wb x B ok ⟨_,_,rfl,cj rfl ?_⟩
 have yR:¬acW b f n→Ao (sa q.hb) (s.fk id:Int) f n true h R:=fun hn=>by unfold Ao;exact cr rfl (jz hn)
 refine ca (fun hc=>yR fun hi=>by have:=hi.1;omega) fun c1=>ca (fun hc=>yR fun hi=>by have:=hi.2.1;omega) fun c2=>ca (fun hc=>yR fun hi=>by have:=hi.2.2.1;omega) fun c3=>?_
 rw [bU (x:=(b.length:Int)-f) (by omega) (by omega)]
 by_cases c4:n>(b.length:Int)-f
 ·rw [decide_eq_true c4]
  exact yR fun hi=>by have:=hi.2.2.2;omega
 ·rw [decide_eq_false c4]
  have GX:acW b f n:=⟨by omega,by omega,by omega,by omega⟩
  unfold Ao
  have e8:wrap .i64 ((8:Int)+f)=8+f:=bU (by omega) (by omega)
  rw [e8]
  refine cj rfl (Th x.v x.rp HU hn.1 (by omega) hn.2 (by omega) (fun wX=>absurd ?_ wX) fun c h' hs row hc k=>⟨⟨_,_,_⟩,_,rfl,?_⟩)
  ·unfold RS.o8
   rw [RS.jy x.v (.inr B.da),RS.EM B ok]
   refine⟨B.nz,by omega,by omega,?_⟩
   unfold dH
   omega
  ·refine mD c h' GX ?_ hc k
   rw [RS.jy x.v (.inr B.da),B.cN]at row
   have e:((List.range n.toNat).map fun j=>bv (kZ (j8 b) ((8+f).toNat+j)))=((b.drop f.toNat).take n.toNat).map bv:=by
    apply cG
    intro j
    rw [bD,bD]
    by_cases hj:j<n.toNat
    ·rw [fL hj,f9 hj,fi,br (by omega)]
     show some (bv (kZ (j8 b) ((8+f).toNat+j)))=some (bv _)
     rw [show (8+f).toNat+j=8+(f.toNat+j)by omega,ok.is.iL _ (by unfold dH;omega),bB,br (by omega)]
     rfl
    ·rw [bV (by simp;omega),bV (by simp;omega)];rfl
   rw [e]at row
   exact row
theorem QE(x:He h q s)(B:s.P2 id b)(ok:Ko b)(hR:∀c h',eM h' c (b.map bv)→h.size≤c→bY N h h'→R (vt #[.slice (sa c) b.length b.length,vi 0]) h') :
  bq PG 156 #[vp (sa q.hb),uv (s.fk id)] h R:=by
 have hl:=ok.len
 refine X2 ?_
 unfold ae0
 refine Wb x B ok ⟨_,_,rfl,cj rfl ?_⟩
 refine UU x B ok ⟨by omega,by omega⟩ ⟨by omega,by omega⟩ (fun hn=>absurd ⟨by omega,by omega,by omega,by omega⟩ hn) fun c h' _ row hc k=>⟨⟨_,_,_⟩,_,rfl,?_⟩
 rw [bu]at row
 have e:(b.drop (0:Int).toNat).take b.length=b:=by
  show (b.drop 0).take b.length=b
  rw [tx,dE]
 rw [e]at row
 exact hR c h' row hc k
end
def an4(b d:Sl)(h:Hp)(R:RP):Prop:=∃e:Int,ZE PG 113 #[.slice b.a b.n b.c,.slice d.a d.n d.c] h (vi e)∧R (vi e:Value) h
theorem ab0 {a0 a1:Sl}{h:Hp}{R:RP}(hF:an4 a0 a1 h R):bq PG 65 #[vl a0,vl a1] h R:=iY (lv:=kw) Tryz.func65 hF
def ae1(b:Int)(h:Hp)(R:RP):Prop:=bq PG 195 #[vu b] h fun r c=>∃a:Int,r=vi a∧R (vi a:Value) c
theorem X3 {a0:Int}{h:Hp}{R:RP}(hF:ae1 a0 h R):bq PG 155 #[vu a0] h R:=iY (lv:=kw) Tryz.func155 hF
def aeZ(b c:Int)(h:Hp)(R:RP):Prop:=bq PG 199 #[vu b] h fun r f=>∃e:Bool,r=vb e∧bq PG 199 #[vu c] f fun r a=>∃d:Bool,r=vb d∧bX e (bX d (R (vi 0:Value) a) (R ((vi (-1):Value)) a)) (bX d (R (vi 1:Value) a) (bX (decide (b<c)) (R ((vi (-1):Value)) a) (bX (decide (b>c)) (R (vi 1:Value) a) (R (vi 0:Value) a))))
theorem X1 {a0 a1:Int}{h:Hp}{R:RP}(hF:aeZ a0 a1 h R):bq PG 158 #[vu a0,vu a1] h R:=iY (lv:=kw) Tryz.func158 hF
def aeJ(a:Int)(h:Hp)(R:RP):Prop:=bX (a==(0:Int)) (R (vi 64:Value) h) (0≤(58:Int)∧(0≤(Int.fdiv (wrap .u64 ((ot .u64 a (wrap .u64 (0-a)))*(285870213051353865:Int))) (2 ^ (min (58:Int).toNat (IntKind.bits .u64))))∧(Int.fdiv (wrap .u64 ((ot .u64 a (wrap .u64 (0-a)))*(285870213051353865:Int))) (2 ^ (min (58:Int).toNat (IntKind.bits .u64))))<((64:Nat):Int))∧∃b:Int,cell h ((⟨2,0,none⟩:Addr).add ((Int.fdiv (wrap .u64 ((ot .u64 a (wrap .u64 (0-a)))*(285870213051353865:Int))) (2 ^ (min (58:Int).toNat (IntKind.bits .u64)))).toNat*1))=some (.int .u8 b)∧R ((vi (wrap .i64 b):Value)) h)
theorem XJ {a0:Int}{h:Hp}{R:RP}(hF:aeJ a0 h R):bq PG 195 #[vu a0] h R:=iY (lv:=kw) Tryz.func195 hF
def aeG(a:Int)(h:Hp)(R:RP):Prop:=R ((vb (a != a):Value)) h
theorem XG {a0:Int}{h:Hp}{R:RP}(hF:aeG a0 h R):bq PG 199 #[vu a0] h R:=iY (lv:=kw) Tryz.func199 hF
def i0:LN→LN→Int
 | [],[]=>0
 | [],_::_=>-1
 |_::_,[]=>1
 |x::a,y::b=>if x<y then -1 else if y<x then 1 else i0 a b
theorem Bt:∀a b:LN,i0 a b=- i0 b a
 | [],[]=>rfl
 | [],_::_=>rfl
 |_::_,[]=>rfl
 |x::a,y::b=>by
  unfold i0
  rw [Bt a b]
  by_cases h1:x<y
  ·rw [if_pos h1,if_neg (by omega),if_pos h1]
  ·by_cases h2:y<x
   ·rw [if_neg h1,if_pos h2,if_pos h2];rfl
   ·rw [if_neg h1,if_neg h2,if_neg h2,if_neg h1]
theorem vx:∀a:LN,i0 a a=0
 | []=>rfl
 |x::a=>by unfold i0;rw [if_neg (by omega),if_neg (by omega)];exact vx a
def F8(l:LN):ByteArray:=⟨(l.map Nat.toUInt8).toArray⟩
theorem BN(l:LN):(F8 l).size=l.length:=by unfold F8 ByteArray.size;simp
theorem uH {l:LN}{i:Nat}(h:i<l.length):(F8 l)[i]! = (l.getD i 0).toUInt8:=by
 have hs:i<(F8 l).size:=by rw [BN];exact h
 rw [getElem!_pos (F8 l) i hs,bB,br h]
 show (l.map Nat.toUInt8).toArray[i]'(by simpa using h)=_
 rw [List.getElem_toArray,List.getElem_map]
 rfl
theorem ac1 {x y:Nat}(hx:x<256)(hy:y<256):(x.toUInt8<y.toUInt8)↔x<y:=by
 rw [UInt8.lt_iff_toNat_lt]
 have e1:x.toUInt8.toNat=x:=by rw [Nat.toUInt8,UInt8.toNat_ofNat'];exact fS hx
 have e2:y.toUInt8.toNat=y:=by rw [Nat.toUInt8,UInt8.toNat_ofNat'];exact fS hy
 rw [e1,e2]
theorem ac2 {x y:Nat}(hx:x<256)(hy:y<256):(x.toUInt8=y.toUInt8)↔x=y:=by
 refine⟨fun e=>?_,fun e=>by rw [e]⟩
 have:=congrArg UInt8.toNat e
 have e1:x.toUInt8.toNat=x:=by rw [Nat.toUInt8,UInt8.toNat_ofNat'];exact fS hx
 have e2:y.toUInt8.toNat=y:=by rw [Nat.toUInt8,UInt8.toNat_ofNat'];exact fS hy
 rw [e1,e2]at this
 exact this
theorem Cu:∀(i:Nat) (a b:LN),i≤a.length→i≤b.length→(∀k,k<i→a.getD k 0=b.getD k 0)→i0 a b=i0 (a.drop i) (b.drop i)
 | 0,a,b,_,_,_=>rfl
 |i+1,[],b,h,_,_=>by simp at h
 |i+1,x::a,[],_,h,_=>by simp at h
 |i+1,x::a,y::b,h1,h2,h=>by
  have e:x=y:=h 0 (by omega)
  subst e
  rw [nZ,nZ,←Cu i a b (by simpa using h1) (by simpa using h2) fun k hk=>by have:=h (k+1) (by omega);simpa using this]
  show (if x<x then(-1:Int)else if x<x then 1 else i0 a b)=_
  rw [if_neg (by omega),if_neg (by omega)]
theorem JX {i:Nat}{a b:LN}(ha:i<a.length)(hb:i<b.length)(h:∀k,k<i→a.getD k 0=b.getD k 0)(iS:a.getD i 0≠b.getD i 0):i0 a b=if a.getD i 0<b.getD i 0 then -1 else 1:=by
 rw [Cu i a b (by omega) (by omega) h,d8 ha,d8 hb]
 have e1:a.getD i 0=a[i]:=by rw [bB,br ha];rfl
 have e2:b.getD i 0=b[i]:=by rw [bB,br hb];rfl
 rw [e1,e2]at iS ⊢
 unfold i0
 split
 ·rfl
 ·rw [if_pos (by omega)]
theorem M1 {a b:LN}(h:∀k,k<min a.length b.length→a.getD k 0=b.getD k 0):i0 a b=if a.length<b.length then -1 else if a.length>b.length then 1 else 0:=by
 rw [Cu (min a.length b.length) a b (Nat.min_le_left _ _) (Nat.min_le_right _ _) h]
 by_cases h1:a.length<b.length
 ·rw [if_pos h1,ji (by omega),gv,d8 h1];rfl
 ·by_cases h2:a.length>b.length
  ·rw [if_neg h1,if_pos h2,Nat.min_eq_right (by omega),gv,d8 h2];rfl
  ·rw [if_neg h1,if_neg h2,ji (by omega),gv,gH (by omega)];rfl
theorem acv {a b:LN}(ha:fK a)(hb:fK b):Extern.BytealgCompare.cmp (F8 a) (F8 b)=i0 a b:=by
 have ga:∀i,a.getD i 0<256:=H3 ha
 have gb:∀i,b.getD i 0<256:=H3 hb
 unfold Extern.BytealgCompare.cmp
 rw [BN,BN]
 cases hf:(List.range (min a.length b.length)).find? fun i=>(F8 a)[i]! != (F8 b)[i]! with
 |some i =>
  simp only
  have hm:=ox hf
  have hr:=ip hf
  have hi:=jQ.1 hr
  have Zj:∀k,k<i→a.getD k 0=b.getD k 0:=fun k hk=>by
   obtain⟨_,j,hj,HY,hb4⟩:=List.find?_eq_some_iff_getElem.1 hf
   have HY:j=i:=by simpa using HY
   subst HY
   have:=hb4 k hk
   simp only [List.getElem_range,bne_iff_ne,ne_eq,pQ,Bool.not_eq_eq_eq_not,qN]at this
   rw [uH (by omega),uH (by omega)]at this
   have this:((a.getD k 0).toUInt8 != (b.getD k 0).toUInt8)=false:=this
   have this:(a.getD k 0).toUInt8=(b.getD k 0).toUInt8:=by simpa using this
   exact(ac2 (ga k) (gb k)).1 this
  rw [uH (by omega),uH (by omega)]at hm ⊢
  have hm:(a.getD i 0).toUInt8≠(b.getD i 0).toUInt8:=by simpa using hm
  rw [JX (by omega) (by omega) Zj fun e=>hm (by rw [e])]
  by_cases fE:a.getD i 0<b.getD i 0
  ·rw [if_pos ((ac1 (ga i) (gb i)).2 fE),if_pos fE]
  ·rw [if_neg (fun h=>fE ((ac1 (ga i) (gb i)).1 h)),if_neg fE]
 |none =>
  simp only
  rw [M1 fun k hk=>?_]
  have:=mu.1 hf k (jQ.2 hk)
  rw [uH (by omega),uH (by omega)]at this
  have this:(a.getD k 0).toUInt8=(b.getD k 0).toUInt8:=by simpa using this
  exact(ac2 (ga k) (gb k)).1 this
theorem zn {P:Program}{w:World}:∀(l:LN) (a:Addr) (vG:ByteArray),Da w.heap a (l.map bv)→(Extern.Bytes.loadBytes a l.length vG).run P w=.ok ⟨vG.data++(l.map Nat.toUInt8).toArray⟩ w
 | [],a,vG,_=>by
  show (Pure.pure vG:Sem ByteArray).run P w=_
  rw [cH]
  simp
 |c::l,a,vG,h=>by
  have h0:cell w.heap a=some (bv c):=by have:=h 0 (bv c) rfl;rwa [show a.add 0=a from by cases a with|mk b o s=>cases s<;>rfl]at this
  have ht:Da w.heap (a.add 1) (l.map bv):=fun j v hj=>by rw [qJ,sC];exact h (j+1) v hj
  show (Bind.bind (Go.load a) _:Sem ByteArray).run P w=_
  rw [run_bind,run_load h0]
  show (Extern.Bytes.loadBytes (a.add 1) l.length (vG.push (c:Int).toNat.toUInt8)).run P w=_
  have:=zn (P:=P) l (a.add 1) (vG.push (c:Int).toNat.toUInt8) ht
  rw [bu]at this ⊢
  refine this.trans ?_
  congr 1
  show (⟨(vG.data.push _)++_⟩:ByteArray)=_
  congr 1
  apply gd
  simp
section
variable {h h':Hp} {q:HQ} {s:RS} {b:LN} {id:Nat} {R:RP}
theorem CK {P:Program}{w:World}{a:Sl}{l:LN}(rd:dZ w.heap a.a (l.map bv)) (n:a.n=l.length):(Extern.Bytes.bytesOf (.slice a.a a.n a.c)).run P w=.ok (F8 l) w:=by
 cases ha:a.a with
 |none =>
  rw [ha]at rd
  have e:l=[]:=nX.1 rd
  subst e
  rfl
 |some p =>
  rw [ha]at rd
  rw [n]
  have:=zn (P:=P) (w:=w) l p .empty rd
  refine Eq.trans ?_ (this.trans ?_)
  ·rfl
  ·congr 1
   show (⟨#[]++_⟩:ByteArray)=⟨_⟩
   simp
theorem aiO {a c:Sl}{l m:LN}(ra:dZ h a.a (l.map bv)) (na:a.n=l.length) (b8:fK l) (rc:dZ h c.a (m.map bv)) (nc:c.n=m.length) (c8:fK m) :
  ZE PG 113 #[.slice a.a a.n a.c,.slice c.a c.n c.c] h (vi (i0 l m)):=by
 intro w hw
 subst hw
 rw [run_callFunc_extern (e:=Extern.BytealgCompare.compare) Tryz.func113 (by kernel_rfl) (by kernel_rfl) (by kernel_rfl) (by kernel_rfl)]
 have:(Extern.BytealgCompare.compare #[.slice a.a a.n a.c,.slice c.a c.n c.c]).run PG w=.ok (vi (i0 l m)) w:=by
  have e:Extern.BytealgCompare.compare #[.slice a.a a.n a.c,.slice c.a c.n c.c]=(do
    let x ←Extern.Bytes.bytesOf (.slice a.a a.n a.c)
    let y ←Extern.Bytes.bytesOf (.slice c.a c.n c.c)
    Pure.pure (goInt (Extern.BytealgCompare.cmp x y)):Sem Value):=rfl
  rw [e]
  simp only [run_bind,CK ra na,CK rc nc,cH,acv b8 c8]
  rfl
 rw [this]
 rfl
theorem J5 {a c:Sl}{l m:LN}(ra:dZ h a.a (l.map bv)) (na:a.n=l.length) (b8:fK l) (rc:dZ h c.a (m.map bv)) (nc:c.n=m.length) (c8:fK m) (hR:R (vi (i0 l m)) h) :
  bq PG 65 #[.slice a.a a.n a.c,.slice c.a c.n c.c] h R:=by
 refine ab0 ?_
 unfold an4
 exact⟨_,aiO ra na b8 rc nc c8,hR⟩
theorem PH(x:He h q s)(B:s.P2 id b)(ok:Ko b){c:Sl}{m:LN}(rc:dZ h c.a (m.map bv)) (nc:c.n=m.length) (c8:fK m) (hR:∀h',bY N h h'→R (vt #[vi (i0 b m),vi 0]) h') :
  bq PG 115 #[vp (sa q.hb),uv (s.fk id),.slice c.a c.n c.c] h R:=by
 refine Yy ?_
 unfold afq
 refine QE x B ok fun d h1 row hd k1=>⟨⟨some (ad d),b.length,b.length⟩,_,rfl,cj rfl ?_⟩
 exact J5 (a:=⟨some (ad d),b.length,b.length⟩) (lq row) rfl ok.b8 (fC k1 rc) nc c8 ⟨_,rfl,hR h1 k1⟩
end
def aha(m:Nat):LN:=if m=4 then [0,1,5]else []
def Xy(J1:Nat→Sl→Sl→Int→Hp→Prop)(n1:Nat)(f i:Sl)(b:Int)(g:Nat→Value)(h:Hp)(R:RP):Prop:=bX (decide (b<(f.n:Int))) ((0≤b∧b<(f.n:Int))∧bE f.a fun k=>∃d:Sl,cell h (k.add (b.toNat*1))=some (.slice d.a d.n d.c)∧(0≤b∧b<(i.n:Int))∧bE i.a fun l=>∃e:Sl,cell h (l.add (b.toNat*1))=some (.slice e.a e.n e.c)∧∃j:Int,bq PG 62 #[.slice d.a d.n d.c,.slice e.a e.n e.c] h (fun v h'=>v=(vi j)∧h'=h)∧bX (j != (0:Int)) (R (vb false:Value) h) (∃m,m<n1∧J1 m f i (wrap .i64 (b+(1:Int))) h)) (R (vb true:Value) h)
abbrev aez(R:RP)(s0a:OA)(s0n s0c:Nat)(s1a:OA)(s1n s1c:Nat)(a:Int)(b:Hp):Prop:=dO (kJ PG fN aha (sub [1,1,0,1,0,0] (bd Tryz.f25))) (dW PG fN aha [1,1,0,1,0] (bd Tryz.f25) [] (eJ PG Tryz.f25 [] R)) [(0,.slice s0a s0n s0c),(1,.slice s1a s1n s1c),(5,vi a)] 27 b
theorem O4 {R:RP}{s0 s1:Sl}{s5:Int}{h0:Hp}(J:Nat→Sl→Sl→Int→Hp→Prop)(n0:Nat)(hi:J n0 s0 s1 s5 h0)(hr:∀n s0 s1 s5 g h,J n s0 s1 s5 h→Xy  J n s0 s1 s5 g h R):aez R s0.a s0.n s0.c s1.a s1.n s1.c s5 h0:=iz (l:=[(0,.l),(1,.l),(5,.i .i64)]) (J:=J) (n0:=n0) (s0,s1,s5,()) hi (fun n s0 s1 s5 g h=>Xy  J n s0 s1 s5 g h R) hr
def aom(b d:Sl)(h:Hp)(R:RP):Prop:=bX ((b.n:Int) != (d.n:Int)) (R (vb false:Value) h) (aez R b.a b.n b.c d.a d.n d.c 0 h)
theorem acp {a0 a1:Sl}{h:Hp}{R:RP}(hF:aom a0 a1 h R):bq PG 25 #[vl a0,vl a1] h R:=iY (lv:=aha) Tryz.func25 hF
def V6(m:Nat):LN:=if m=8 then [3,4,5,6,7]else []
def Fx(J1:Nat→Sl→Sl→Sl→Int→Int→Hp→Prop)(n1:Nat)(i j b:Sl)(f g:Int)(k:Bool)(h:Hp)(R:RP):Prop:=bX k ((0≤f∧f<(i.n:Int))∧bE i.a fun l=>∃d:Sl,cell h (l.add (f.toNat*1))=some (.slice d.a d.n d.c)∧gi (h.push (.cells #[.slice d.a d.n d.c] 39)) fun o=>im 39 1 24 #[.slice none 0 0] b.a b.n b.c (some (nb h)) 1 o fun p q r s=>∃m,m<n1∧J1 m i j ⟨p,q,r⟩ (wrap .i64 (f+(1:Int))) g s) ((0≤g∧g<(j.n:Int))∧bE j.a fun t=>∃e:Sl,cell h (t.add (g.toNat*1))=some (.slice e.a e.n e.c)∧gi (h.push (.cells #[.slice e.a e.n e.c] 39)) fun u=>im 39 1 24 #[.slice none 0 0] b.a b.n b.c (some (nb h)) 1 u fun v w x y=>∃m,m<n1∧J1 m i j ⟨v,w,x⟩ f (wrap .i64 (g+(1:Int))) y)
def RC(J1:Nat→Sl→Sl→Sl→Int→Int→Hp→Prop)(n1:Nat)(e f g:Sl)(b d:Int)(l:Bool)(h:Hp)(R:RP):Prop:=bX l (bX (d==(f.n:Int)) (Fx J1 n1 e f g b d true h R) (bX (decide (b<(e.n:Int))) ((0≤b∧b<(e.n:Int))∧bE e.a fun m=>∃i:Sl,cell h (m.add (b.toNat*1))=some (.slice i.a i.n i.c)∧(0≤d∧d<(f.n:Int))∧bE f.a fun o=>∃j:Sl,cell h (o.add (d.toNat*1))=some (.slice j.a j.n j.c)∧∃k:Int,bq PG 62 #[.slice i.a i.n i.c,.slice j.a j.n j.c] h (fun v h'=>v=(vi k)∧h'=h)∧Fx J1 n1 e f g b d (decide (k≤(0:Int))) h R) (Fx J1 n1 e f g b d false h R))) (R (.slice g.a g.n g.c:Value) h)
def Xo(J1:Nat→Sl→Sl→Sl→Int→Int→Hp→Prop)(n1:Nat)(a b e:Sl)(c d:Int)(g:Nat→Value)(h:Hp)(R:RP):Prop:=bX (decide (c<(a.n:Int))) (RC J1 n1 a b e c d true h R) (RC J1 n1 a b e c d (decide (d<(b.n:Int))) h R)
abbrev aol(R:RP)(s3a:OA)(s3n s3c:Nat)(s4a:OA)(s4n s4c:Nat)(s5a:OA)(s5n s5c:Nat)(a b:Int)(c:Hp):Prop:=dO (kJ PG fN V6 (sub [1,1,1,1,1,1,1,0,0,0] (bd Tryz.f27))) (dW PG fN V6 [1,1,1,1,1,1,1,0,0] (bd Tryz.f27) [] (eJ PG Tryz.f27 [] R)) [(3,.slice s3a s3n s3c),(4,.slice s4a s4n s4c),(5,.slice s5a s5n s5c),(6,vi a),(7,vi b)] 79 c
theorem OZ {R:RP}{s3 s4 s5:Sl}{s6 s7:Int}{h0:Hp}(J:Nat→Sl→Sl→Sl→Int→Int→Hp→Prop)(n0:Nat)(hi:J n0 s3 s4 s5 s6 s7 h0)(hr:∀n s3 s4 s5 s6 s7 g h,J n s3 s4 s5 s6 s7 h→Xo  J n s3 s4 s5 s6 s7 g h R):aol R s3.a s3.n s3.c s4.a s4.n s4.c s5.a s5.n s5.c s6 s7 h0:=iz (l:=[(3,.l),(4,.l),(5,.l),(6,.i .i64),(7,.i .i64)]) (J:=J) (n0:=n0) (s3,s4,s5,s6,s7,()) hi (fun n s3 s4 s5 s6 s7 g h=>Xo  J n s3 s4 s5 s6 s7 g h R) hr
def ais(b:Sl)(h:Hp)(R:RP):Prop:=bX (decide ((b.n:Int)<(2:Int))) (bq PG 66 #[.slice b.a b.n b.c] h fun r i=>∃d:Sl,r=.slice d.a d.n d.c∧R (.slice d.a d.n d.c:Value) i) ((2:Int)≠0∧(0≤(wrap .i64 (Int.tdiv (b.n:Int) (2:Int)))∧(wrap .i64 (Int.tdiv (b.n:Int) (2:Int)))≤(b.c:Int))∧(0≤(0:Int)∧(0:Int)≤(wrap .i64 (Int.tdiv (b.n:Int) (2:Int))))∧bq PG 27 #[.slice (if b.c=(0:Int).toNat then b.a else Option.map (fun x=>x.add ((0:Int).toNat*1)) b.a) ((wrap .i64 (Int.tdiv (b.n:Int) (2:Int))).toNat-(0:Int).toNat) (b.c-(0:Int).toNat)] h fun r j=>∃e:Sl,r=.slice e.a e.n e.c∧(2:Int)≠0∧(0≤(wrap .i64 (Int.tdiv (b.n:Int) (2:Int)))∧(wrap .i64 (Int.tdiv (b.n:Int) (2:Int)))≤(b.n:Int))∧bq PG 27 #[.slice (if b.c=(wrap .i64 (Int.tdiv (b.n:Int) (2:Int))).toNat then b.a else Option.map (fun x=>x.add ((wrap .i64 (Int.tdiv (b.n:Int) (2:Int))).toNat*1)) b.a) (b.n-(wrap .i64 (Int.tdiv (b.n:Int) (2:Int))).toNat) (b.c-(wrap .i64 (Int.tdiv (b.n:Int) (2:Int))).toNat)] j fun r g=>∃f:Sl,r=.slice f.a f.n f.c∧(0≤(0:Int)∧(0:Int)≤(b.n:Int))∧(b.n:Int)<2 ^ 62∧(24:Nat)*(b.n:Int)≤2 ^ 48∧gi (g.push (.cells (ja #[.slice none 0 0] ((b.n:Int).toNat*1)) 39)) fun k=>dO (kJ PG fN V6 (sub [1,1,1,1,1,1,1,0,0,0] (bd Tryz.f27))) (dW PG fN V6 [1,1,1,1,1,1,1,0,0] (bd Tryz.f27) [] (eJ PG Tryz.f27 [] R)) [(3,.slice e.a e.n e.c),(4,.slice f.a f.n f.c),(5,.slice (some (nb g)) ((0:Int).toNat) ((b.n:Int).toNat)),(6,vi 0),(7,vi 0)] 79 k)
theorem RD {a0:Sl}{h:Hp}{R:RP}(hF:ais a0 h R):bq PG 27 #[vl a0] h R:=iY (lv:=V6) Tryz.func27 hF
def aoe(b d:Sl)(h:Hp)(R:RP):Prop:=bq PG 62 #[.slice b.a b.n b.c,.slice d.a d.n d.c] h fun r f=>∃e:Int,r=vi e∧R ((vb (e==(0:Int)):Value)) f
theorem ab9 {a0 a1:Sl}{h:Hp}{R:RP}(hF:aoe a0 a1 h R):bq PG 51 #[vl a0,vl a1] h R:=iY (lv:=kw) Tryz.func51 hF
def V3(m:Nat):LN:=if m=2 then [0,1,5]else []
def Md(J1:Nat→Sl→Sl→Int→Hp→Prop)(n1:Nat)(c d:Sl)(b:Int)(j:Bool)(h:Hp)(R:RP):Prop:=bX j ((0≤b∧b<(c.n:Int))∧bE c.a fun k=>∃e:Int,cell h (k.add (b.toNat*1))=some (.int .u8 e)∧(0≤b∧b<(d.n:Int))∧bE d.a fun l=>∃f:Int,cell h (l.add (b.toNat*1))=some (.int .u8 f)∧bX (decide (e<f)) (R ((vi (-1):Value)) h) ((0≤b∧b<(c.n:Int))∧bE c.a fun o=>∃g:Int,cell h (o.add (b.toNat*1))=some (.int .u8 g)∧(0≤b∧b<(d.n:Int))∧bE d.a fun p=>∃i:Int,cell h (p.add (b.toNat*1))=some (.int .u8 i)∧bX (decide (g>i)) (R (vi 1:Value) h) (∃m,m<n1∧J1 m c d (wrap .i64 (b+(1:Int))) h))) (bX (decide ((c.n:Int)<(d.n:Int))) (R ((vi (-1):Value)) h) (bX (decide ((c.n:Int)>(d.n:Int))) (R (vi 1:Value) h) (R (vi 0:Value) h)))
def Xc(J1:Nat→Sl→Sl→Int→Hp→Prop)(n1:Nat)(b c:Sl)(a:Int)(g:Nat→Value)(h:Hp)(R:RP):Prop:=bX (decide (a<(b.n:Int))) (Md J1 n1 b c a (decide (a<(c.n:Int))) h R) (Md J1 n1 b c a false h R)
abbrev an8(R:RP)(s0a:OA)(s0n s0c:Nat)(s1a:OA)(s1n s1c:Nat)(a:Int)(b:Hp):Prop:=dO (kJ PG fN V3 (sub [1,0,1,0,0] (bd Tryz.f62))) (dW PG fN V3 [1,0,1,0] (bd Tryz.f62) [] (eJ PG Tryz.f62 [] R)) [(0,.slice s0a s0n s0c),(1,.slice s1a s1n s1c),(5,vi a)] 46 b
theorem OV {R:RP}{s0 s1:Sl}{s5:Int}{h0:Hp}(J:Nat→Sl→Sl→Int→Hp→Prop)(n0:Nat)(hi:J n0 s0 s1 s5 h0)(hr:∀n s0 s1 s5 g h,J n s0 s1 s5 h→Xc  J n s0 s1 s5 g h R):an8 R s0.a s0.n s0.c s1.a s1.n s1.c s5 h0:=iz (l:=[(0,.l),(1,.l),(5,.i .i64)]) (J:=J) (n0:=n0) (s0,s1,s5,()) hi (fun n s0 s1 s5 g h=>Xc  J n s0 s1 s5 g h R) hr
def an7(b d:Sl)(h:Hp)(R:RP):Prop:=dO (kJ PG fN V3 (sub [1,0,1,0,0] (bd Tryz.f62))) (dW PG fN V3 [1,0,1,0] (bd Tryz.f62) [] (eJ PG Tryz.f62 [] R)) [(0,.slice b.a b.n b.c),(1,.slice d.a d.n d.c),(5,vi 0)] 46 h
theorem ab3 {a0 a1:Sl}{h:Hp}{R:RP}(hF:an7 a0 a1 h R):bq PG 62 #[vl a0,vl a1] h R:=iY (lv:=V3) Tryz.func62 hF
def V2(m:Nat):LN:=if m=3 then [0,3,4]else []
def Mc(J1:Nat→Sl→Sl→Int→Hp→Prop)(n1:Nat)(i d:Sl)(b:Int)(g:Nat→Value)(h:Hp)(R:RP):Prop:=bX (decide (b<(i.n:Int))) ((0≤b∧b<(i.n:Int))∧bE i.a fun j=>∃e:Sl,cell h (j.add (b.toNat*1))=some (.slice e.a e.n e.c)∧bq PG 106 #[.slice e.a e.n e.c] h fun r k=>∃f:Sl,r=.slice f.a f.n f.c∧(0≤b∧b<(d.n:Int))∧bE d.a fun l=>St k (l.add (b.toNat*1)) (.slice f.a f.n f.c) fun o=>∃m,m<n1∧J1 m i d (wrap .i64 (b+(1:Int))) o) (R (.slice d.a d.n d.c:Value) h)
abbrev an3(R:RP)(s0a:OA)(s0n s0c:Nat)(s3a:OA)(s3n s3c:Nat)(a:Int)(b:Hp):Prop:=dO (kJ PG fN V2 (sub [1,1,0,1,0,0] (bd Tryz.f66))) (dW PG fN V2 [1,1,0,1,0] (bd Tryz.f66) [] (eJ PG Tryz.f66 [] R)) [(0,.slice s0a s0n s0c),(3,.slice s3a s3n s3c),(4,vi a)] 23 b
theorem Fv {R:RP}{s0 s3:Sl}{s4:Int}{h0:Hp}(J:Nat→Sl→Sl→Int→Hp→Prop)(n0:Nat)(hi:J n0 s0 s3 s4 h0)(hr:∀n s0 s3 s4 g h,J n s0 s3 s4 h→Mc  J n s0 s3 s4 g h R):an3 R s0.a s0.n s0.c s3.a s3.n s3.c s4 h0:=iz (l:=[(0,.l),(3,.l),(4,.i .i64)]) (J:=J) (n0:=n0) (s0,s3,s4,()) hi (fun n s0 s3 s4 g h=>Mc  J n s0 s3 s4 g h R) hr
def an1(b:Sl)(h:Hp)(R:RP):Prop:=(0≤(b.n:Int)∧(b.n:Int)≤(b.n:Int))∧(b.n:Int)<2 ^ 62∧(24:Nat)*(b.n:Int)≤2 ^ 48∧gi (h.push (.cells (ja #[.slice none 0 0] ((b.n:Int).toNat*1)) 39)) fun d=>dO (kJ PG fN V2 (sub [1,1,0,1,0,0] (bd Tryz.f66))) (dW PG fN V2 [1,1,0,1,0] (bd Tryz.f66) [] (eJ PG Tryz.f66 [] R)) [(0,.slice b.a b.n b.c),(3,.slice (some (nb h)) ((b.n:Int).toNat) ((b.n:Int).toNat)),(4,vi 0)] 23 d
theorem abZ {a0:Sl}{h:Hp}{R:RP}(hF:an1 a0 h R):bq PG 66 #[vl a0] h R:=iY (lv:=V2) Tryz.func66 hF
def afw(b:Sl)(h:Hp)(R:RP):Prop:=(0≤(b.n:Int)∧(b.n:Int)≤(b.n:Int))∧(b.n:Int)<2 ^ 62∧(1:Nat)*(b.n:Int)≤2 ^ 48∧gi (h.push (.cells (ja #[.int .u8 0] ((b.n:Int).toNat*1)) 5)) fun c=>RU 1 (some (nb h)) ((b.n:Int).toNat) b.a b.n c fun rk d=>R ((.slice (some (nb h)) ((b.n:Int).toNat) ((b.n:Int).toNat):Value)) d
theorem YH {a0:Sl}{h:Hp}{R:RP}(hF:afw a0 h R):bq PG 106 #[vl a0] h R:=iY (lv:=kw) Tryz.func106 hF
section
variable {h h' h2:Hp} {q:HQ} {b:LN} {R:RP}
theorem ug:∀ {a b:LN},i0 a b=0→a=b
 | [],[],_=>rfl
 | [],_::_,h=>by unfold i0 at h;omega
 |_::_,[],h=>by unfold i0 at h;omega
 |x::a,y::b,h=>by
  unfold i0 at h
  split at h
  ·omega
  ·split at h
   ·omega
   ·rw [ug h,show x=y by omega]
theorem RW {a c:Sl}{l m:LN}(ha:dZ h a.a (l.map bv)) (hb:dZ h c.a (m.map bv)) (na:a.n=l.length) (nb:c.n=m.length) (hn:l.length<9223372036854775807) (hR:R (vi (i0 l m)) h) :
  bq PG 62 #[.slice a.a a.n a.c,.slice c.a c.n c.c] h R:=by
 refine ab3 ?_
 unfold an7
 refine OV (s0:=a) (s1:=c) (fun q s0 s1 s5 h'=>∃i:Nat,i≤l.length∧i≤m.length∧(∀k,k<i→l.getD k 0=m.getD k 0)∧q=l.length-i∧a=s0∧c=s1∧s5=(i:Int)∧h=h') l.length ⟨0,cP _,cP _,nofun,rfl,rfl,rfl,rfl,rfl⟩ ?_
 rintro q s0 s1 s5 g0 h2 ⟨i,hi,hi2,abe,rfl,rfl,rfl,rfl,rfl⟩
 have Fj:∀J,(l.length≤i∨m.length≤i)→Md J (l.length-i) a c (i:Int) false h R:=fun J he=>by
  have e:=M1 (a:=l) (b:=m) fun k hk=>abe k (by omega)
  rw [e]at hR
  unfold Md
  refine cj rfl (ca (fun h1=>?_) fun h1=>ca (fun h2=>?_) fun h2=>?_)
  ·rw [if_pos (by omega)]at hR;exact hR
  ·rw [if_neg (by omega),if_pos (by omega)]at hR;exact hR
  ·rw [if_neg (by omega),if_neg (by omega)]at hR;exact hR
 unfold Xc
 refine ca (fun fE=>?_) (fun fE=>Fj _ (by omega))
 have iZ:i<l.length:=by omega
 by_cases him:i<m.length
 ·rw [decide_eq_true (show (i:Int)<(c.n:Int)by omega)]
  have e0:(l.map bv)[i]?=some (bv (l.getD i 0)):=by rw [bD,bB,br iZ];rfl
  have e1:(m.map bv)[i]?=some (bv (m.getD i 0)):=by rw [bD,bB,br him];rfl
  obtain⟨p,hp,cp⟩:=ni ha e0
  obtain⟨p',HV,cp'⟩:=ni hb e1
  unfold Md
  have rp:cell h (p.add ((i:Int).toNat*1))=some (.int .u8 (l.getD i 0:Int)):=by rw [bu,cQ];exact cp
  have wR:cell h (p'.add ((i:Int).toNat*1))=some (.int .u8 (m.getD i 0:Int)):=by rw [bu,cQ];exact cp'
  refine cr rfl ⟨⟨by omega,fE⟩,yV hp ⟨_,rp,⟨by omega,by omega⟩,yV HV ⟨_,wR,ca (fun hl=>?_) fun hl=>⟨⟨by omega,fE⟩,yV hp ⟨_,rp,⟨by omega,by omega⟩,yV HV ⟨_,wR,ca (fun hg=>?_) fun hg=>?_⟩⟩⟩⟩⟩⟩
  ·rw [JX iZ him abe (by omega),if_pos (by omega)]at hR;exact hR
  ·rw [JX iZ him abe (by omega),if_neg (by omega)]at hR;exact hR
  ·refine⟨l.length-(i+1),by omega,i+1,iZ,him,fun k hk=>?_,rfl,rfl,rfl,?_,rfl⟩
   ·by_cases hki:k=i
    ·subst hki;omega
    ·exact abe k (by omega)
   ·rw [bU (by omega) (by omega)];rfl
 ·rw [decide_eq_false (show ¬(i:Int)<(c.n:Int)by omega)]
  exact Fj _ (.inr (by omega))
theorem aiV {a c:Sl}{l m:LN}(ha:dZ h a.a (l.map bv)) (hb:dZ h c.a (m.map bv)) (na:a.n=l.length) (nb:c.n=m.length) (hn:l.length<9223372036854775807) (hR:R (vb (i0 l m==0)) h) :
  bq PG 51 #[.slice a.a a.n a.c,.slice c.a c.n c.c] h R:=by
 refine ab9 ?_
 unfold aoe
 exact RW ha hb na nb hn ⟨_,rfl,hR⟩
theorem SG(h:Hp)(a:OA):dZ h a []:=by
 cases a with
 |none=>rfl
 |some p=>intro j v hj;cases hj
end
theorem qx:∀ {a b c:LN},i0 a b<0→i0 b c<0→i0 a c<0
 | [],[],_,h,_=>by unfold i0 at h;omega
 | [],_::_,[],_,h=>by unfold i0 at h;omega
 | [],_::_,_::_,_,_=>by unfold i0;omega
 |_::_,[],_,h,_=>by unfold i0 at h;omega
 |_::_,_::_,[],_,h=>by unfold i0 at h;omega
 |x::a,y::b,z::c,h1,h2=>by
  unfold i0 at h1 h2 ⊢
  by_cases e1:x<y
  ·by_cases e2:y<z
   ·rw [if_pos (by omega)];omega
   ·rw [if_neg e2]at h2
    by_cases e3:y>z
    ·rw [if_pos e3]at h2;omega
    ·rw [if_pos (by omega)];omega
  ·rw [if_neg e1]at h1
   by_cases e3:x>y
   ·rw [if_pos e3]at h1;omega
   ·rw [if_neg e3]at h1
    by_cases e2:y<z
    ·rw [if_pos (by omega)];omega
    ·rw [if_neg e2]at h2
     by_cases e4:y>z
     ·rw [if_pos e4]at h2;omega
     ·rw [if_neg e4]at h2
      rw [if_neg (by omega),if_neg (by omega)]
      exact qx h1 h2
theorem yo(a:LN):¬i0 a a<0:=by rw [vx];omega
theorem wh {a b:LN}(h:a≠b):i0 a b<0∨i0 b a<0:=by
 have h1:i0 a b≠0:=fun e=>h (ug e)
 have h2:=Bt a b
 omega
abbrev HK:=Nat × LN
def hkC(a b:HK):Int:=if a.1<b.1 then -1 else if b.1<a.1 then 1 else i0 a.2 b.2
def kV(a b:HK):Prop:=hkC a b<0
instance (a b:HK):Decidable (kV a b):=inferInstanceAs (Decidable (_<_))
theorem qZ {a b:HK}:kV a b↔a.1<b.1∨(a.1=b.1∧i0 a.2 b.2<0):=by
 unfold kV hkC
 split
 ·exact⟨fun _=>.inl (by omega),fun _=>by omega⟩
 ·split
  ·exact⟨fun h=>by omega,fun h=>by omega⟩
  ·exact⟨fun h=>.inr ⟨by omega,h⟩,fun h=>h.elim (fun h=>by omega) fun h=>h.2⟩
theorem Bh(a:HK):¬kV a a:=fun h=>by
 rcases qZ.1 h with h|h
 ·omega
 ·exact yo _ h.2
theorem nt {a b c:HK}(h1:kV a b)(h2:kV b c):kV a c:=by
 rw [qZ]at *
 rcases h1 with h1|⟨h1,g1⟩<;>rcases h2 with h2|⟨h2,g2⟩
 ·exact .inl (by omega)
 ·exact .inl (by omega)
 ·exact .inl (by omega)
 ·exact .inr ⟨by omega,qx g1 g2⟩
theorem Fg {a b:HK}(h1:kV a b)(h2:kV b a):False:=Bh _ (nt h1 h2)
theorem qt {a b:HK}(h:a≠b):kV a b∨kV b a:=by
 rw [qZ,qZ]
 by_cases e:a.1=b.1
 ·have:a.2≠b.2:=fun e2=>h (Prod.ext e e2)
  rcases wh this with h|h
  ·exact .inl (.inr ⟨e,h⟩)
  ·exact .inr (.inr ⟨e.symm,h⟩)
 ·omega
theorem Cb {a b:List HK}(p:a.Perm b)(ha:a.Pairwise kV)(hb:b.Pairwise kV):a=b:=BW p (fun _ _ _ _ h1 h2=>Fg h1 h2) ha hb
def Ah(l:List HK):List HK:=l.mergeSort fun a b=>decide (¬kV b a)
theorem oU(l:List HK):(Ah l).Perm l:=List.mergeSort_perm _ _
theorem Cc {l:List HK}(hn:l.Nodup):(Ah l).Pairwise kV:=by
 have h:=List.pairwise_mergeSort (le:=fun a b:HK=>decide (¬kV b a)) (fun a b c h1 h2=>by
  simp only [decide_eq_true_eq]at *
  intro h
  by_cases e:b=a
  ·subst e;exact h2 h
  ·rcases qt e with h3|h3
   ·exact h1 h3
   ·exact h2 (nt h h3)) (fun a b=>by
  simp only [rM,decide_eq_true_eq]
  by_cases h:kV b a
  ·exact .inr fun h2=>Fg h h2
  ·exact .inl h) l
 have Tc:(Ah l).Nodup:=(oU l).nodup_iff.2 hn
 have h2:(Ah l).Pairwise fun a b=>a≠b∧¬kV b a:=(pP Tc h).imp fun {a b} hh=>⟨hh.1,by simpa using hh.2⟩
 exact h2.imp fun {a b} hh=>(qt hh.1).resolve_right hh.2
theorem zx {α β:Type}{f:α→β}:∀ {l:List α},(l.map f).Nodup→l.Nodup
 | [],_=>gQ
 |x::l,h=>by
  rw [cU,cV]at h
  exact cV.2 ⟨fun hx=>h.1 (cy.2 ⟨x,hx,rfl⟩),zx h.2⟩
def iM.hk(x:iM):HK:=(x.hs,x.key)
def TD.oo(T:TD):List HK:=Ah (T.dc.map iM.hk)
theorem oH.WA {T:TD}(k:oH T):(T.dc.map iM.hk).Nodup:=by
 have h:=k.ku
 have e:T.dc.map (·.key)=(T.dc.map iM.hk).map (·.2):=by rw [fh];rfl
 rw [e]at h
 exact zx h
theorem oH.pw {T:TD}(k:oH T):T.oo.Pairwise kV:=Cc k.WA
theorem TD.sU(T:TD):T.oo.Perm (T.dc.map iM.hk):=oU _
theorem TD.qo(T:TD):T.oo.length=T.dc.length:=by rw [T.sU.length_eq,bA]
theorem abl {l:List HK}(h:l.Pairwise kV)(j:Nat):l.Pairwise fun x y=>bk j x.1≤bk j y.1:=h.imp fun {a b} hh=>R1 (by
 rcases qZ.1 hh with h|h
 ·exact ms h
 ·exact Nat.le_of_eq h.1)
theorem Fp {α:Type}{cs:List (List α)} {f:α→Bool} {a n:Nat} (h:∀(i:Nat) (c:List α),cs[i]?=some c→∀x∈c,(f x=true↔a≤i∧i<a+n)):cs.flatten.filter f=((cs.drop a).take n).flatten:=by
 have e:cs=cs.take a++((cs.drop a).take n++cs.drop (a+n)):=by
  rw [←tA,eZ,eZ]
 have h1:(cs.take a).flatten.filter f=[]:=by
  refine je.2 fun x hx=>?_
  obtain⟨i,c,hc,Ly⟩:=iC hx
  have hi:i<a:=by
   have:=(bp.1 hc).1;rw [dm]at this;omega
  rw [f9 hi]at hc
  intro hf
  have:=(h i c hc x Ly).1 hf;omega
 have h3:(cs.drop (a+n)).flatten.filter f=[]:=by
  refine je.2 fun x hx=>?_
  obtain⟨i,c,hc,Ly⟩:=iC hx
  rw [fi]at hc
  intro hf
  have:=(h _ c hc x Ly).1 hf;omega
 have h2:((cs.drop a).take n).flatten.filter f=((cs.drop a).take n).flatten:=by
  refine nY.2 fun x hx=>?_
  obtain⟨i,c,hc,Ly⟩:=iC hx
  have hi:i<n:=by have:=(bp.1 hc).1;rw [dm]at this;omega
  rw [f9 hi,fi]at hc
  exact(h _ c hc x Ly).2 ⟨by omega,by omega⟩
 conv=>lhs;rw [e]
 rw [ki,ki,gG,gG,h1,h2,h3,eU,eV]
def rI.part(A:rI)(pj p:Nat):List iM:=((A.cs.drop (p*2 ^ (A.j-pj))).take (2 ^ (A.j-pj))).flatten
theorem aaO {A:rI}{pj p:Nat}(hpj:pj≤A.j)(hj:A.j≤20)(hb:∀(i:Nat) (c:List iM),A.cs[i]?=some c→∀x∈c,bk A.j x.hs=i):A.dc.filter (fun x=>decide (bk pj x.hs=p))=A.part pj p:=by
 refine Fp fun i c hc x hx=>?_
 have e:=hb i c hc x hx
 rw [decide_eq_true_eq,aoS hpj (by omega:A.j≤64),e]
 have hp:=two_pos (A.j-pj)
 generalize 2 ^ (A.j-pj)=d at *
 rw [←nP]
 constructor
 ·rintro rfl
  exact⟨Nat.div_mul_le_self i d,(by have:=Nat.lt_mul_div_succ i hp;rwa [jF]at this)⟩
 ·rintro⟨h1,h2⟩
  exact Nat.div_eq_of_lt_le h1 h2
structure DE where
 hs:Nat
 key:LN
 val:Nat
 a:Nat
 b:Nat
 c:Nat
def DE.hk(e:DE):HK:=(e.hs,e.key)
structure DT where
 df:Nat
 es:List DE
 bk:Nat
 od:Nat
 mv:Nat
 vw:Nat
 hd:Nat
 jY:Nat
 sl:Sl
structure DW where
 iN:Nat
 eX:List (Nat × Nat)
 de:List DT
 gy:LN
 vs:Sl
 ts:Sl
 bs:Sl
def j0(l:List DE)(x:HK):Nat:=(l.filter fun e=>decide (kV e.hk x)).length
theorem QL(l:List DE)(x:HK):j0 l x≤l.length:=dT _ _
theorem vQ:∀ {l:List DE} {x:HK},(l.map DE.hk).Pairwise kV→(∀i e,l[i]?=some e→(i<j0 l x↔kV e.hk x))
 | [],_,_=>nofun
 |y::l,x,h=>fun i e he=>by
  rw [cU,oK]at h
  unfold j0
  by_cases hy:kV y.hk x
  ·rw [fI (by simpa using hy),dF]
   cases i with
   |zero =>
    obtain rfl:y=e:=by simpa using he
    exact⟨fun _=>hy,fun _=>sB _⟩
   |succ i =>
    have:=vQ (x:=x) h.2 i e (by simpa using he)
    unfold j0 at this
    rw [←this]
    omega
  ·have hn:l.filter (fun e=>decide (kV e.hk x))=[]:=by
    refine je.2 fun z hz=>?_
    rw [decide_eq_true_eq]
    exact fun hzx=>hy (nt (h.1 _ (cy.2 ⟨z,hz,rfl⟩)) hzx)
   rw [gu (by simpa using hy),hn]
   refine⟨fun h=>by simp at h,fun hx=>?_⟩
   cases i with
   |zero =>
    obtain rfl:y=e:=by simpa using he
    exact absurd hx hy
   |succ i =>
    have:e∈l:=bx (by simpa using he)
    exact absurd (nt (h.1 _ (cy.2 ⟨e,this,rfl⟩)) hx) hy
def iB(l:List DE)(x:HK):Bool:=match l[j0 l x]? with|some e=>decide (e.key=x.2)|none=>false
def cS(l:LN):Nat:=(l.map yj).sum
def cB(l:LN):Nat:=(l.map ym).sum
theorem ai4(l m:LN):cS (l++m)=cS l+cS m:=by unfold cS;rw [cx,iG]
theorem ai6(l m:LN):cB (l++m)=cB l+cB m:=by unfold cB;rw [cx,iG]
theorem ai3(z:Nat):cS [z]=yj z:=by unfold cS;simp
theorem ai5(z:Nat):cB [z]=ym z:=by unfold cB;simp
def cT(l:LN):Nat:=(l.map (·+1)).sum
theorem FS(l m:LN):cT (l++m)=cT l+cT m:=by unfold cT;rw [cx,iG]
theorem ai2(z:Nat):cT [z]=z+1:=by unfold cT;simp
theorem afM(l:LN):cS l≤cT l:=by
 induction l with
 |nil=>exact bH _
 |cons x l ih =>
  unfold cS cT yj at *
  simp only [cU,f8]
  split<;>omega
theorem afN(l:LN):cB l≤cT l:=by
 induction l with
 |nil=>exact bH _
 |cons x l ih =>
  unfold cB cT ym at *
  simp only [cU,f8]
  split<;>omega
def DE.pR(e:DE):LN:=[7,2+dH e.key.length]
def DT.ib(t:DT):Bool:=decide (t.vw+t.hd≠0)
def DT.pR(t:DT):LN:=if t.ib then 6::(1+t.bk)::((if 0<t.od then [1+t.od]else [])++t.es.flatMap DE.pR)else []
def DW.seen(w:DW)(v i:Nat):Bool:=decide (i=v)||w.de.any fun t=>t.ib&&t.es.any fun e=>decide (e.val=i)
def DW.uO(w:DW)(v:Nat):LN:=((List.range' 1 (w.eX.length-1)).filter (w.seen v)).map fun i=>(w.eX.getD i (0,0)).1
def DW.pR(w:DW)(v:Nat):LN:=(w.gy.filter fun z=>decide (0<z))++(w.de.flatMap DT.pR++w.uO v)
def DW.S(w:DW)(v:Nat):Nat:=1+cS (w.pR v)
def DW.B(w:DW)(v:Nat):Nat:=cB (w.pR v)
theorem El {α:Type}{f:α→Nat}{B:Nat}:∀ {l:List α},(∀x∈l,f x≤B)→(l.map f).sum≤l.length*B
 | [],_=>by simp
 |x::l,h=>by
  rw [cU,f8,dF,nP]
  have h1:=h x (bQ ..)
  have h2:=El (f:=f) (B:=B) (l:=l) fun y hy=>h y (bJ _ hy)
  omega
theorem JY {α:Type}{f:α→LN}{B:Nat}:∀ {l:List α},(∀x∈l,cT (f x)≤B)→cT (l.flatMap f)≤l.length*B
 | [],_=>by simp [cT]
 |x::l,h=>by
  rw [cJ,FS,dF,nP]
  have h1:=h x (bQ ..)
  have h2:=JY (f:=f) (B:=B) (l:=l) fun y hy=>h y (bJ _ hy)
  omega
theorem afL {B:Nat}{l:LN}(h:∀x∈l,x≤B):cT l≤l.length*(B+1):=by
 unfold cT
 exact El fun x hx=>by have:=h x hx;omega
theorem DT.PP {t:DT}(hl:t.es.length≤4194304)(hk:∀e∈t.es,e.key.length≤4096)(hb:t.bk≤4194304)(ho:t.od≤4194304):cT t.pR≤2208301056:=by
 unfold DT.pR
 split
 ·have h1:cT (t.es.flatMap DE.pR)≤t.es.length*524:=JY fun e he=>by
   have:=hk e he
   unfold DE.pR dH cT
   simp only [cU,kI,f8,List.sum_nil]
   omega
  have h2:cT (6::(1+t.bk)::((if 0<t.od then [1+t.od]else [])++t.es.flatMap DE.pR))=7+(2+t.bk)+(cT (if 0<t.od then [1+t.od]else [])+cT (t.es.flatMap DE.pR)):=by
   rw [←FS]
   unfold cT
   simp only [cU,f8]
   omega
  have h3:cT (if 0<t.od then [1+t.od]else [])≤2+t.od:=by
   split
   ·rw [ai2];omega
   ·exact cP _
  rw [h2]
  omega
 ·exact cP _
theorem DW.PP {w:DW}(hv:w.eX.length≤1000000)(hs:∀v∈w.eX,v.1≤512)(hb:w.gy.length≤1000000)(hz:∀z∈w.gy,z≤512)(ht:w.de.length≤1000000)(h:∀t∈w.de,cT t.pR≤2208301056)(v:Nat):cT (w.pR v)≤288230376151711744:=by
 unfold DW.pR
 rw [FS,FS]
 have h1:cT (w.gy.filter fun z=>decide (0<z))≤w.gy.length*513:=by
  refine bP (afL (B:=512) fun x hx=>hz x (dU.1 hx).1) (gA _ (dT _ _))
 have h2:cT (w.de.flatMap DT.pR)≤w.de.length*2208301056:=JY h
 have h3:cT (w.uO v)≤w.eX.length*513:=by
  unfold DW.uO
  have hl:(((List.range' 1 (w.eX.length-1)).filter (w.seen v)).map fun i=>(w.eX.getD i (0,0)).1).length≤w.eX.length:=by
   rw [bA]
   have:=dT (w.seen v) (List.range' 1 (w.eX.length-1))
   rw [List.length_range']at this
   omega
  refine bP (afL (B:=512) fun x hx=>?_) (gA _ hl)
  obtain⟨i,_,rfl⟩:=cy.1 hx
  rw [bB]
  cases hi:w.eX[i]? with
  |none=>exact cP _
  |some z=>exact hs z (bx hi)
 omega
theorem Eb {l:List DE}{x:HK}(h:(l.map DE.hk).Pairwise kV) (hh:∀e∈l,e.key=x.2→e.hs=x.1):iB l x=true↔∃e∈l,e.key=x.2:=by
 constructor
 ·intro ht
  unfold iB at ht
  cases he:l[j0 l x]? with
  |none=>rw [he]at ht;cases ht
  |some e =>
   rw [he]at ht
   exact⟨e,bx he,by simpa using ht⟩
 ·rintro⟨e,he,ek⟩
  obtain⟨j,hj⟩:=bT.1 he
  have ex:e.hk=x:=Prod.ext (hh e he ek) ek
  have hp:=vQ (x:=x) h
  have o5:¬j<j0 l x:=fun fE=>by
   have:=(hp j e hj).1 fE
   rw [ex]at this
   exact Bh _ this
  have nK:=(bp.1 hj).1
  have za:j0 l x<l.length:=by omega
  have h0:l[j0 l x]?=some (l[j0 l x]'za):=br za
  generalize l[j0 l x]'za=y at h0
  have hy:¬kV y.hk x:=fun fE=>Nat.lt_irrefl _ ((hp _ y h0).2 fE)
  have hjp:j=j0 l x:=by
   rcases eS (j0 l x) j with fE|uc
   ·have:=EO h fE (by rw [bD,h0];rfl) (by rw [bD,hj];rfl)
    rw [ex]at this
    exact absurd this hy
   ·omega
  unfold iB
  rw [←hjp,hj]
  exact decide_eq_true ek
theorem lj {l:List DE}{x:HK}(h:iB l x=true):∃e,l[j0 l x]?=some e∧e.key=x.2:=by
 unfold iB at h
 cases he:l[j0 l x]? with
 |none=>rw [he]at h;cases h
 |some e =>
  rw [he]at h
  exact⟨e,rfl,by simpa using h⟩
theorem ahq {l:List DE}{x:DE}(h:(l.map DE.hk).Pairwise kV) (hn:∀e∈l,e.hk≠x.hk):((l.take (j0 l x.hk)++x::l.drop (j0 l x.hk)).map DE.hk).Pairwise kV:=by
 have hp:=vQ (x:=x.hk) h
 have h':=lD.1 h
 rw [lD,List.pairwise_append,oK]
 have hlo:∀e∈l.take (j0 l x.hk),kV e.hk x.hk:=fun e he=>by
  obtain⟨j,hj⟩:=bT.1 he
  have nK:j<j0 l x.hk:=by
   have:=(bp.1 hj).1
   rw [dm]at this
   omega
  rw [f9 nK]at hj
  exact(hp j e hj).1 nK
 have hhi:∀e∈l.drop (j0 l x.hk),kV x.hk e.hk:=fun e he=>by
  obtain⟨j,hj⟩:=bT.1 he
  rw [fi]at hj
  have h1:¬kV e.hk x.hk:=fun fE=>by
   have:=(hp _ e hj).2 fE
   omega
  exact(qt (hn e (bx hj))).resolve_left h1
 refine⟨h'.sublist (mX _ _),⟨hhi,h'.sublist (pN _ _)⟩,fun a ha b hb=>?_⟩
 rcases ck.1 hb with rfl|hb
 ·exact hlo a ha
 ·exact nt (hlo a ha) (hhi b hb)
theorem RT {h:Hp}{b:Nat}{cs:LV}{o n m:Nat}{src jc:OA}{l:LN}{K:Int→Hp→Prop}(row:eM h b cs)(rd:dZ h src (l.map bv)) (hm:m=l.length) (hn:m≤n) (ho:o+l.length≤cs.length)
  (hb:l≠[]→jc=some ⟨b,o,none⟩) (hK:∀h',eM h' b (B1 cs o (l.map bv))→bY (fun i=>i=b) h h'→K (m:Nat) h'):RU 1 jc n src m h K:=by
 have amR:min m n=m:=ji hn
 refine⟨l.map bv,rd,by rw [bA,amR];omega,?_⟩
 rw [amR]
 by_cases hl:l=[]
 ·subst hl
  have e:B1 cs o (([]:LN).map bv)=cs:=by unfold B1;simp
  rw [e]at hK
  have:=hK h row (bY.refl _ _)
  cases jc with
  |none=>exact this
  |some a=>exact⟨trivial,this⟩
 ·rw [hb hl]
  show wH h ((⟨b,o,none⟩:Addr).add 0) _ 0∧K _ (o9 h ((⟨b,o,none⟩:Addr).add 0) _ 0)
  have ea:(⟨b,o,none⟩:Addr).add 0=⟨b,o,none⟩:=rfl
  rw [ea]
  refine⟨uI _ _ _ o 0 row (by rw [bA];omega) (fun v hv=>by obtain⟨x,_,rfl⟩:=cy.1 hv;rfl),hK _ ?_ (sV _ _ _ _ rfl)⟩
  have:=uQ (l.map bv) h _ o 0 row (by rw [bA];omega)
  rwa [iF]at this
namespace RS
def K1(s:RS)(fH:List (LN)):RS × Nat × Int:=if fH.flatten.length>4096 then(s,0,41)else s.y9 fH.flatten
end RS
structure ajo (h:Hp) (q:HQ) (a:Sl) (Dw:List Sl) (fH:List (LN)):Prop where
 rd:dZ h a.a (Dw.map Sq)
 n:a.n=Dw.length
 len:Dw.length=fH.length
 Ty:∀(i:Nat) (c:Sl) (p:LN),Dw[i]?=some c→fH[i]?=some p→dZ h c.a (p.map bv)∧c.n=p.length∧fK p∧p.length<140737488355328∧∀a:Addr,c.a=some a→p≠[]→a.block<h.size
section
variable {h h' h2:Hp} {q q2:HQ} {s:RS} {nd:List di} {b:LN} {id:Nat} {R:RP}
theorem yM {fH:List (LN)} {i:Nat} {p:LN} (h:fH[i]?=some p):(fH.take (i+1)).flatten=(fH.take i).flatten++p:=by rw [RS.iO h];simp
theorem Jn (fH:List (LN)) (i:Nat):(fH.take i).flatten.length≤fH.flatten.length:=by
 conv=>rhs;rw [←eZ i fH,ki,bG]
 omega
theorem ag1(x:He h q s)(sh:s.vH nd){a:Sl}{Dw:List Sl}{fH:List (LN)} (sr:ajo h q a Dw fH) (Q6:Dw.length<100000000000000) (hR:Kg h q (s.K1 fH).1 (vt #[uv (s.K1 fH).2.1,vi (s.K1 fH).2.2]) R) :
  bq PG 95 #[vp (sa q.hb),.slice a.a a.n a.c] h R:=by
 have part:∀i,i<Dw.length→∃c p,Dw[i]?=some c∧fH[i]?=some p:=fun i hi=>⟨_,_,br hi,br (by have:=sr.len;omega)⟩
 have han:=sr.n
 have vg:=sr.len
 refine abH ?_
 unfold anE
 refine ON (fun m s0 s1 s6 Sx uP qS h'=>∃i:Nat,i≤Dw.length∧m=Dw.length-i∧s0=some (ad q.hb)∧a=s1∧s6=(((fH.take i).flatten.length:Nat):Int)∧(fH.take i).flatten.length≤4096∧a=Sx∧uP=(Dw.length:Int)∧qS=(i:Int)∧h=h') Dw.length
  ⟨0,cP _,rfl,rfl,rfl,rfl,by simp,rfl,by rw [han],rfl,rfl⟩ ?_
 rintro m s0 s1 s6 Sx uP qS g h1 ⟨i,hi,rfl,rfl,rfl,rfl,uc,rfl,rfl,rfl,rfl⟩
 unfold W2
 refine ca (fun fE=>?_) fun o5=>?_
 ·have iZ:i<Dw.length:=by omega
  obtain⟨c,p,hc,hp⟩:=part i iZ
  obtain⟨rdc,nc,b8,lc,oc⟩:=sr.Ty i c p hc hp
  obtain⟨pa,hpa,kY⟩:=ni sr.rd (i:=i) (v:=Sq c) (by rw [bD,hc];rfl)
  refine⟨⟨by omega,by omega⟩,cW hpa ⟨c,by rw [bu,cQ];exact kY,?_⟩⟩
  have ef:(((fH.take i).flatten.length:Nat):Int)+(c.n:Int)=(((fH.take (i+1)).flatten.length:Nat):Int):=by
   rw [yM hp,bG,nc];omega
  have C2:=Jn fH (i+1)
  have e1:(fH.take (i+1)).flatten.length=(fH.take i).flatten.length+p.length:=by rw [yM hp,bG]
  rw [bU (x:=(((fH.take i).flatten.length:Nat):Int)+_) (by omega) (by omega),ef]
  refine ca (fun anl=>?_) fun vV=>⟨Dw.length-(i+1),by omega,i+1,iZ,rfl,rfl,rfl,rfl,by omega,rfl,rfl,by rw [bU (by omega) (by omega)];rfl,rfl⟩
  have:s.K1 fH=(s,0,41):=by unfold RS.K1;rw [if_pos (by omega)]
  rw [this]at hR
  exact hR _ q x (Ex.refl _ _)
 ·have hie:i=fH.length:=by omega
  subst hie
  rw [dE]at uc ⊢
  have hF:=uc
  generalize hn:fH.flatten.length=n at uc ⊢
  refine⟨⟨by omega,by omega⟩,by omega,by omega,dh fun h2 e2=>?_⟩
  rw [bu]at e2 ⊢
  have k2:bY N h h2:=e2▸cF _ _ _
  have mi:eM h2 h.size (List.replicate n (bv 0)):=by
   have e3:=e2
   rw [o6]at e3
   exact e3▸du h (List.replicate n (bv 0)).toArray 5
  have YT:nb h=ad h.size:=rfl
  rw [YT]
  refine OM (fun m s0 s9 oh Dh xy Eu h'=>∃i:Nat,i≤Dw.length∧m=Dw.length-i∧s0=some (ad q.hb)∧s9=⟨some (ad h.size),n,n⟩∧oh=(((fH.take i).flatten.length:Nat):Int)∧a=Dh∧xy=(Dw.length:Int)∧Eu=(i:Int) ∧
    bY N h h'∧eM h' h.size ((fH.take i).flatten.map bv++List.replicate (n-(fH.take i).flatten.length) (bv 0))) Dw.length
   ⟨0,cP _,rfl,rfl,rfl,rfl,rfl,by rw [han],rfl,k2,by simpa using mi⟩ ?_
  rintro m s0 s9 oh Dh xy Eu g2 h3 ⟨i,hi,rfl,rfl,rfl,rfl,rfl,rfl,rfl,k3,zQ⟩
  unfold W1
  have hfi:=Jn fH i
  refine ca (fun fE=>?_) fun o5=>?_
  ·have iZ:i<Dw.length:=by omega
   obtain⟨c,p,hc,hp⟩:=part i iZ
   obtain⟨rdc,nc,b8,lc,oc⟩:=sr.Ty i c p hc hp
   obtain⟨pa,hpa,kY⟩:=ni (fC k3 sr.rd) (i:=i) (v:=Sq c) (by rw [bD,hc];rfl)
   have C2:=Jn fH (i+1)
   have e1:(fH.take (i+1)).flatten.length=(fH.take i).flatten.length+p.length:=by rw [yM hp,bG]
   refine⟨⟨by omega,by omega⟩,cW hpa ⟨c,by rw [bu,cQ];exact kY,⟨by omega,by show (((fH.take i).flatten.length:Nat):Int)≤(n:Int);omega⟩,?_⟩⟩
   rw [bu]
   refine RT (o:=(fH.take i).flatten.length) (l:=p) zQ (fC k3 rdc) nc (by show c.n≤n-_;omega) ?_ (fun iS=>?_) fun h4 GG k4=>?_
   ·rw [bG,bA,fq];omega
   ·have wW:0<p.length:=List.length_pos_iff.2 iS
    show (if n=(fH.take i).flatten.length then _ else _)=_
    rw [if_neg (by omega)]
    show some ((ad h.size).add _)=_
    rw [cm,cQ]
   ·refine⟨Dw.length-(i+1),by omega,i+1,iZ,rfl,rfl,rfl,?_,rfl,rfl,by rw [bU (by omega) (by omega)];rfl,?_,?_⟩
    ·rw [bU (by omega) (by omega)];omega
    ·exact⟨bP k3.1 k4.1,fun j hj _=>(k4.2 j (bZ hj k3.1) (by omega)).trans (k3.2 j hj id)⟩
    ·have e5:B1 ((fH.take i).flatten.map bv++List.replicate (n-(fH.take i).flatten.length) (bv 0)) (fH.take i).flatten.length (p.map bv)=(fH.take (i+1)).flatten.map bv++List.replicate (n-(fH.take (i+1)).flatten.length) (bv 0):=by
      unfold B1
      have q1:((fH.take i).flatten.map bv++List.replicate (n-(fH.take i).flatten.length) (bv 0)).take (fH.take i).flatten.length=(fH.take i).flatten.map bv:=by
       rw [gB (by rw [bA];exact bH _),eT (by rw [bA];exact bH _)]
      have q2:((fH.take i).flatten.map bv++List.replicate (n-(fH.take i).flatten.length) (bv 0)).drop ((fH.take i).flatten.length+(p.map bv).length)=List.replicate (n-(fH.take (i+1)).flatten.length) (bv 0):=by
       rw [bA,kP,jf (by rw [bA];omega),eU,bA,List.drop_replicate]
       congr 1
       omega
      rw [q1,q2,yM hp,cx]
     rw [e5]at GG
     exact GG
  ·have hie:i=fH.length:=by omega
   subst hie
   rw [dE,hn,dD,rU,eV]at zQ
   have x3:=x.cI k3
   have b8:fK fH.flatten:=fun c hc=>by
    obtain⟨p,hp,hcp⟩:=dY.1 hc
    obtain⟨i,hi⟩:=bT.1 hp
    have iZ:=(bp.1 hi).1
    obtain⟨c',p',tG,HV⟩:=part i (by omega)
    rw [hi]at HV
    obtain rfl:=bt HV
    exact(sr.Ty i c' p tG hi).2.2.1 c hcp
   have sr3:Zs h3 q ⟨some (ad h.size),n,n⟩ fH.flatten:=⟨lq zQ,hn.symm,b8,fun p hp _=>by obtain rfl:=bt hp;exact⟨x.fr (bH _),eE zQ⟩⟩
   have e6:s.K1 fH=s.y9 fH.flatten:=by unfold RS.K1;rw [if_neg (by omega)]
   rw [e6]at hR
   exact ahh x3 sh ⟨b8,by omega⟩ sr3 fun h5 q5 x5 ex5=>⟨_,_,rfl,hR h5 q5 x5 ((Ex.pm k3 fun b hb=>x.fr hb).trans ex5)⟩
end
structure Gs (h:Hp) (q:HQ) (s:RS) (nd:List di):Prop where
 st:He h q s
 sh:s.vH nd
section
variable {h h':Hp} {q q':HQ} {s s':RS} {nd:List di} {n:di} {id:Nat} {R:RP}
theorem Gs.v(x:Gs h q s nd):s.Inv:=x.st.v
theorem Gs.cI(x:Gs h q s nd)(k:bY N h h'):Gs h' q s nd:=⟨x.st.cI k,x.sh⟩
theorem Gs.da(x:Gs h q s nd)(r:vD nd s.bC id):s.da id:=r.da x.v x.sh
theorem Gs.HP(x:Gs h q s nd){S:Nat→Prop}(k:bY S h h')(hS:∀b,S b→q.bR b=.out):Gs h' q s nd:=⟨⟨x.st.rp.eG k hS,x.st.v⟩,x.sh⟩
theorem alu(x:Gs h q s nd)(hn:nd[id]?=some n)(hh:s.da id){k t:Nat}(ht:t=0∨s.da t)(hk:k<n.cY.length){i:Int}(hi:i=(k:Int))
  (hR:∀h' q' s',Gs h' q' s' (nd.set id ⟨n.kind,n.cY.set k t,n.cN⟩)→s'.Kh s→s'.bC=s.bC→Ex h q h' q'→R (vi 0) h') :
  bq PG 92 #[vp (sa q.hb),uv (s.fk id),vi i,uv (s.fk t)] h R:=by
 subst hi
 obtain⟨s',e,UZ,al,er⟩:=RS.WR x.v x.sh hn hh ht hk
 refine Zf x.st (RS.qi x.v (.inr hh)) (RS.qi x.v ht) ?_
 rw [e]
 exact fun h' q' x' ex=>hR h' q' s' ⟨x',UZ⟩ al er ex
theorem Vs(x:Gs h q s nd)(hn:nd[id]?=some n)(hh:s.da id){k w:Nat}(hw:w<18446744073709551616)(hk:k<n.cN.length){i:Int}(hi:i=((n.cY.length+k:Nat):Int))
  (hR:∀h' q' s',Gs h' q' s' (nd.set id ⟨n.kind,n.cY,n.cN.set k w⟩)→s'.Kh s→s'.bC=s.bC→Ex h q h' q'→R (vi 0) h') :
  bq PG 92 #[vp (sa q.hb),uv (s.fk id),vi i,uv w] h R:=by
 subst hi
 obtain⟨s',e,UZ,al,er⟩:=RS.WS (x:=w) x.v x.sh hn hh hk
 refine Zf x.st (RS.qi x.v (.inr hh)) hw ?_
 rw [e]
 exact fun h' q' x' ex=>hR h' q' s' ⟨x',UZ⟩ al er ex
theorem alw(x:Gs h q s nd)(hn:nd[id]?=some n)(hh:s.da id){k r:Nat}(hk:n.cY[k]?=some r){i:Int}(hi:i=(k:Int)) (hR:R (vt #[uv (s.fk r),vi 0]) h) :
  bq PG 72 #[vp (sa q.hb),uv (s.fk id),vi i] h R:=by
 subst hi
 refine DH x.v x.st.rp (RS.qi x.v (.inr hh)) ?_
 rw [RS.WT x.v x.sh hn hh hk]
 exact hR
theorem Vu(x:Gs h q s nd)(hn:nd[id]?=some n)(hh:s.da id){k w:Nat}(hk:n.cN[k]?=some w){i:Int}(hi:i=((n.cY.length+k:Nat):Int)) (hR:R (vt #[uv w,vi 0]) h) :
  bq PG 72 #[vp (sa q.hb),uv (s.fk id),vi i] h R:=by
 subst hi
 refine DH x.v x.st.rp (RS.qi x.v (.inr hh)) ?_
 rw [RS.WU x.v x.sh hn hh hk]
 exact hR
theorem agN(x:Gs h q s nd){i:Int}(hR:R (vt #[uv 0,vi 32]) h):bq PG 72 #[vp (sa q.hb),uv 0,vi i] h R:=by
 refine DH x.v x.st.rp (by omega) ?_
 have:s.Cd 0 i=(0,32):=by unfold RS.Cd;rw [if_pos (RS.np s)]
 rw [this];exact hR
theorem QH(x:Gs h q s nd)(hn:nd[id]?=some n)(hh:s.da id)(hR:R (vt #[vi (n.kind:Nat),vi (n.cY.length:Nat),vi (n.cN.length:Nat),vi 0]) h) :
  bq PG 89 #[vp (sa q.hb),uv (s.fk id)] h R:=by
 refine qr x.v x.st.rp (RS.qi x.v (.inr hh)) ?_
 rw [RS.aeo x.v x.sh hn hh]
 exact hR
theorem agM(x:Gs h q s nd)(hR:R (vt #[vi 0,vi 0,vi 0,vi 32]) h):bq PG 89 #[vp (sa q.hb),uv 0] h R:=by
 refine qr x.v x.st.rp (by omega) ?_
 have:s.uW 0=((0,0,0),32):=by unfold RS.uW;rw [if_pos (RS.np s)]
 rw [this];exact hR
theorem A7(x:Gs h q s nd){k r w:Nat}(hs:pY (k:Int) (r:Int) (w:Int)) {i1 i2 i3:Int} (e1:i1=(k:Int)) (e2:i2=(r:Int)) (e3:i3=(w:Int))
  (sY:∀h' q' s',Gs h' q' s' nd→s'.bC=s.bC→s'.cM=s.cM→Ex h q h' q'→¬s.zf r w→R (vt #[uv 0,vi 31]) h')
  (vV:∀h' q' s',Gs h' q' s' (nd++[⟨k,List.replicate r 0,List.replicate w 0⟩])→s'.bC=s.bC→s'.cM=s.cM→s'.da nd.length→Ex h q h' q'→s.zf r w→R (vt #[uv (s'.fk nd.length),vi 0]) h') :
  bq PG 96 #[vp (sa q.hb),vi i1,vi i2,vi i3] h R:=by
 subst e1 e2 e3
 refine R0 x.st ?_
 rcases RS.aby x.v x.sh hs with⟨hr,t,e,a,b,c⟩|⟨hr,t,e,a,b,c,d⟩
 ·rw [e]
  exact fun h' q' x' ex=>sY h' q' t ⟨x',a⟩ b c ex hr
 ·rw [e]
  exact fun h' q' x' ex=>vV h' q' t ⟨x',a⟩ b c d ex hr
theorem BU(x:Gs h q s nd)(hh:id=0∨s.da id)(hl:s.bC.length<100000000)
  (hR:∀h' q' s',Gs h' q' s' nd→s'.Kh s→s'.bC=ix s.bC id→Ex h q h' q'→R (vt #[vi ((RS.dV s.bC+1:Nat):Int),vi 0]) h') :
  bq PG 90 #[vp (sa q.hb),uv (s.fk id)] h R:=by
 refine Zg x.st hl (RS.qi x.v hh) ?_
 rw [RS.aie x.v x.sh hh]
 exact fun h' q' x' ex=>hR h' q' _ ⟨x',x.sh.bC _⟩ (RS.um _ _) rfl ex
theorem BV(x:Gs h q s nd){m:Nat}(hm:1≤m)(hd:s.bC.getD (m-1) none=some id)
  (hR:∀h' q' s',Gs h' q' s' nd→s'.Kh s→s'.bC=s.bC.set (m-1) none→Ex h q h' q'→R (vi 0) h') :
  bq PG 84 #[vp (sa q.hb),vi (m:Int)] h R:=by
 refine ai1 x.st ?_
 rw [RS.WW s hm hd]
 exact fun h' q' x' ex=>hR h' q' _ ⟨x',x.sh.bC _⟩ (RS.um _ _) rfl ex
theorem Vv(x:Gs h q s nd){m:Nat}(hm:1≤m)(hd:s.bC.getD (m-1) none=some id) (hR:R (vt #[uv (s.fk id),vi 0]) h) :
  bq PG 91 #[vp (sa q.hb),vi (m:Int)] h R:=by
 refine aoN x.st ?_
 rw [RS.auj s hm hd]
 exact hR
theorem SH(x:Gs h q s nd)(hR:∀h' q' s',Gs h' q' s' nd→s'.bC=s.bC→s'.cM=s.cM→Ex h q h' q'→s'=s.collect→R (vt #[]) h'):bq PG 32 #[vp (sa q.hb)] h R :=
 TE x.st fun h' q' x' ex=>hR h' q' _ ⟨x',x.sh.sub (RS.Sub.collect x.v)⟩ RS.yg.2 RS.C7 ex rfl
theorem Vt(x:Gs h q s nd){i:Int}(hR:∀h' q' s' e,Gs h' q' s' nd→s'.bC=s.bC→s'.cM=s.cM→Ex h q h' q'→R (vi e) h'):bq PG 42 #[vp (sa q.hb),vi i] h R :=
 Zh x.st fun h' q' x' ex=>hR h' q' _ _ ⟨x',x.sh.sub (RS.Sub.lG x.v i)⟩ (RS.NZ i).2 (RS.NY i) ex
end
section
variable {h h':Hp} {q q':HQ} {s s':RS} {nd:List di} {n:di} {id:Nat} {R:RP} {b:LN}
theorem Gs.isB(x:Gs h q s nd)(hh:s.da id)(hn:nd[id]?=some (oV b)):s.P2 id b:=RS.P2.of x.v x.sh hh hn
theorem alv(x:Gs h q s nd){a:Sl}{Dw:List Sl}{fH:List (LN)} (sr:ajo h q a Dw fH) (Q6:Dw.length<100000000000000) (hb8:fK fH.flatten)
  (anl:fH.flatten.length>4096→∀h' q',Gs h' q' s nd→Ex h q h' q'→R (vt #[uv 0,vi 41]) h')
  (sY:fH.flatten.length≤4096→∀h' q' s',Gs h' q' s' nd→s'.bC=s.bC→s'.cM=s.cM→Ex h q h' q'→¬s.zf 0 (1+dH fH.flatten.length)→R (vt #[uv 0,vi 31]) h')
  (vV:∀h' q' s',Ko fH.flatten→Gs h' q' s' (nd++[oV fH.flatten])→s'.bC=s.bC→s'.cM=s.cM→s'.da nd.length→Ex h q h' q'→s.zf 0 (1+dH fH.flatten.length)→R (vt #[uv (s'.fk nd.length),vi 0]) h') :
  bq PG 95 #[vp (sa q.hb),.slice a.a a.n a.c] h R:=by
 refine ag1 x.st x.sh sr Q6 ?_
 unfold RS.K1
 by_cases hl:fH.flatten.length>4096
 ·rw [if_pos hl]
  exact fun h' q' x' ex=>anl hl h' q' ⟨x',x.sh⟩ ex
 ·rw [if_neg hl]
  have ok:Ko fH.flatten:=⟨hb8,by omega⟩
  rcases RS.anu x.v x.sh ok with⟨hr,t,e,c1,c2,c3⟩|⟨hr,t,e,c1,c2,c3,c4⟩
  ·rw [e]
   exact fun h' q' x' ex=>sY (by omega) h' q' t ⟨x',c1⟩ c2 c3 ex hr
  ·rw [e]
   exact fun h' q' x' ex=>vV h' q' t ok ⟨x',c1⟩ c2 c3 c4 ex hr
theorem agL(x:Gs h q s nd)(hh:s.da id)(hn:nd[id]?=some (oV b)) (ok:Ko b) (hR:∀c h',eM h' c (b.map bv)→h.size≤c→bY N h h'→R (vt #[.slice (sa c) b.length b.length,vi 0]) h') :
  bq PG 156 #[vp (sa q.hb),uv (s.fk id)] h R:=QE x.st (x.isB hh hn) ok hR
end
end Go.Ev
