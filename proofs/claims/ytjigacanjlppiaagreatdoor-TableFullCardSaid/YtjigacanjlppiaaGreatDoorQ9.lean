/- Lists in a strict order; parts of a list by . No condition. -/
import Derived.Test.YtjigacanjlppiaaGreatDoorQ8
set_option linter.all false
set_option maxRecDepth 1000000
open Go.IntKind (wrap)
namespace Go.Ev
section
variable {α β:Type} {lt:α→α→Prop}
theorem EO {l:List α}{lt:α→α→Prop}(h:l.Pairwise lt):∀ {i j:Nat} {x y:α},i<j→l[i]?=some x→l[j]?=some y→lt x y:=by
 intro i j x y zc hx hy
 obtain⟨hi,rfl⟩:=bp.1 hx
 obtain⟨hj,rfl⟩:=bp.1 hy
 exact List.pairwise_iff_getElem.1 h i j hi hj zc
theorem BW:∀ {a b:List α},a.Perm b→(∀x∈a,∀y∈a,lt x y→lt y x→False)→a.Pairwise lt→b.Pairwise lt→a=b
 | [],b,p,_,_,_=>by rw [List.nil_perm.1 p]
 |x::a,[],p,_,_,_=>by have:=p.length_eq;simp at this
 |x::a,y::b,p,asy,ha,hb=>by
  rw [oK]at ha hb
  have hxy:x=y:=by
   have hx:x∈y::b:=p.mem_iff.1 (bQ ..)
   have hy:y∈x::a:=p.mem_iff.2 (bQ ..)
   rcases ck.1 hx with e|hx
   ·exact e
   rcases ck.1 hy with e|hy
   ·exact e.symm
   exact(asy x (bQ ..) y (bJ _ hy) (ha.1 y hy) (hb.1 x hx)).elim
  subst hxy
  rw [BW (tB p) (fun u hu v hv=>asy u (bJ _ hu) v (bJ _ hv)) ha.2 hb.2]
theorem VB {f:α→Nat}:∀ {l:List α},l.Pairwise (fun x y=>f x≤f y)→∀(a n:Nat),(∀x∈l,a≤f x∧f x<a+n)→(List.range' a n).flatMap (fun p=>l.filter fun x=>decide (f x=p))=l:=by
 intro l h a n
 induction n generalizing a l with
 |zero=>intro hb;cases l with
  |nil=>rfl
  |cons x l=>have:=hb x (bQ ..);omega
 |succ n ih =>
  intro hb
  rw [me,cJ]
  have key:∀l:List α,l.Pairwise (fun x y=>f x≤f y)→(∀x∈l,a≤f x)→l=l.filter (fun x=>decide (f x=a))++l.filter (fun x=>decide (a+1≤f x)):=by
   intro l
   induction l with
   |nil=>exact fun _ _=>rfl
   |cons x l ih2 =>
    intro hp hm
    rw [oK]at hp
    have hx:=hm x (bQ ..)
    by_cases e:f x=a
    ·rw [fI (by simpa using e),gu (by simp;omega),List.cons_append,←ih2 hp.2 fun y hy=>hm y (bJ _ hy)]
    ·have none:∀y∈x::l,¬f y=a:=fun y hy=>by
      rcases ck.1 hy with rfl|hy
      ·exact e
      ·have:=hp.1 y hy;omega
     have e1:(x::l).filter (fun x=>decide (f x=a))=[]:=je.2 fun y hy=>by simpa using none y hy
     have e2:(x::l).filter (fun x=>decide (a+1≤f x))=x::l:=nY.2 fun y hy=>by have:=none y hy;have:=hm y hy;simp;omega
     rw [e1,e2,eU]
  have h1:=key l h fun x hx=>(hb x hx).1
  have h2:l.filter (fun x=>decide (a+1≤f x))=(List.range' (a+1) n).flatMap (fun p=>l.filter fun x=>decide (f x=p)):=by
   have:=ih (l:=l.filter fun x=>decide (a+1≤f x)) (h.sublist kj) (a+1) fun x hx=>by
    have:=dU.1 hx
    have h3:=hb x this.1
    have h4:a+1≤f x:=by simpa using this.2
    omega
   rw [←this]
   have:∀(ps:LN),(∀p∈ps,a+1≤p)→ps.flatMap (fun p=>(l.filter fun x=>decide (a+1≤f x)).filter fun x=>decide (f x=p))=ps.flatMap (fun p=>l.filter fun x=>decide (f x=p)):=by
    intro ps
    induction ps with
    |nil=>exact fun _=>rfl
    |cons p ps ih3 =>
     intro hp
     rw [cJ,cJ,ih3 fun q hq=>hp q (bJ _ hq),tu]
     congr 1
     refine List.filter_congr fun x _=>?_
     have:=hp p (bQ ..)
     by_cases e:f x=p
     ·have:a+1≤f x:=by omega
      simp [e,this];omega
     ·simp [e]
   exact this _ fun p hp=>by have:=pK.1 hp;omega
  rw [←h2,←h1]
theorem xV(g:α→Bool)(f:β→List α):∀l:List β,(l.flatMap f).filter g=l.flatMap fun x=>(f x).filter g
 | []=>rfl
 |x::l=>by rw [cJ,gG,xV g f l,cJ]
theorem N7 {f g:α→Nat}{l:List α}(hf:l.Pairwise fun x y=>f x≤f y){n c p0:Nat}(hn:∀x∈l,f x<n)(hp:p0≤n)(hc:∀x∈l,c≤g x→p0≤f x):
  l.filter (fun x=>decide (c≤g x))=(List.range' p0 (n-p0)).flatMap fun p=>(l.filter fun x=>decide (f x=p)).filter fun x=>decide (c≤g x):=by
 have h1:=VB (l:=l.filter fun x=>decide (c≤g x)) (hf.sublist kj) p0 (n-p0) fun x hx=>by
  have:=dU.1 hx
  have h2:=hc x this.1 (by simpa using this.2)
  have h3:=hn x this.1
  omega
 rw [←h1]
 have:∀ps:LN,ps.flatMap (fun p=>(l.filter fun x=>decide (c≤g x)).filter fun x=>decide (f x=p))=ps.flatMap fun p=>(l.filter fun x=>decide (f x=p)).filter fun x=>decide (c≤g x):=by
  intro ps
  induction ps with
  |nil=>rfl
  |cons p ps ih =>
   rw [cJ,cJ,ih,tu,tu]
   congr 1
   exact List.filter_congr fun x _=>Bool.and_comm _ _
 rw [this]
end
def bk(j h:Nat):Nat:=h / 2 ^ (64-j)
theorem Ih {j h:Nat}(hj:j≤64)(hh:h<18446744073709551616):bk j h<2 ^ j:=by
 unfold bk
 refine Nat.div_lt_of_lt_mul ?_
 rw [←Nat.pow_add,show 64-j+j=64 by omega]
 exact hh
theorem R1 {j a b:Nat}(h:a≤b):bk j a≤bk j b:=Nat.div_le_div_right h
theorem aoS {i j h:Nat}(zc:i≤j)(hj:j≤64):bk i h=bk j h / 2 ^ (j-i):=by
 unfold bk
 rw [Nat.div_div_eq_div_mul,←Nat.pow_add,show 64-j+(j-i)=64-i by omega]
def jZ(n:Nat):List (Nat × LN)→Nat→List (LN)→Nat × List (LN)
 | [],_,vG=>(0,vG)
 | (h,k)::t,mP,vG=>if n≤vG.length∧h≠mP then(h,vG)else jZ n t h (vG++[k])
theorem BR {n:Nat}:∀(l:List (Nat × LN)) (mP:Nat) (vG:List (LN)),vG.length+l.length≤n→jZ n l mP vG=(0,vG++l.map (·.2))
 | [],_,vG,_=>by simp [jZ]
 | (h,k)::t,mP,vG,hn=>by
  have hl:vG.length+(t.length+1)≤n:=by simpa using hn
  rw [jZ,if_neg (by omega),BR t h (vG++[k]) (by simp;omega)]
  simp
structure iM where
 e:Nat
 k:Nat
 hs:Nat
 key:LN
 r:Nat
 a:Nat
 b:Nat
def iM.node(x:iM)(nxt:Nat):di:=⟨6,[nxt,x.k,x.r],[x.hs,x.a,x.b]⟩
def WG:List iM→Nat→Nat
 | [],t=>t
 |x::_,_=>x.e
abbrev lL(c:List iM):Nat:=WG c 0
def MS(nd:List di)(x:iM)(nxt:Nat):Prop:=nd[x.e]?=some (x.node nxt)∧nd[x.k]?=some (oV x.key)∧Ko x.key
def BI(nd:List di):List iM→Nat→Prop
 | [],_=>True
 |x::c,t=>MS nd x (WG c t)∧BI nd c t
def iX(l:List iM):LN:=l.flatMap fun x=>[x.e,x.k]
section
variable {nd gm:List di} {c:List iM} {x y:iM} {t u:Nat}
theorem gS:iX (x::c)=x.e::x.k::iX c:=rfl
theorem iE(a b:List iM):iX (a++b)=iX a++iX b:=gW ..
theorem iR {i:Nat}:i∈iX c↔∃x∈c,i=x.e∨i=x.k:=by
 unfold iX;simp [mf]
theorem fJ(h:x∈c):x.e∈iX c:=iR.2 ⟨x,h,.inl rfl⟩
theorem iK(h:x∈c):x.k∈iX c:=iR.2 ⟨x,h,.inr rfl⟩
theorem iT {a b:List iM}(h:a.Perm b):(iX a).Perm (iX b):=h.flatMap_right _
theorem BI.eG(h:BI nd c t)(hk:∀i∈iX c,gm[i]?=nd[i]?):BI gm c t:=by
 induction c with
 |nil=>trivial
 |cons x c ih =>
  rw [gS]at hk
  refine⟨⟨?_,?_,h.1.2.2⟩,ih h.2 fun i hi=>hk i (bJ _ (bJ _ hi))⟩
  ·rw [hk _ (bQ ..)];exact h.1.1
  ·rw [hk _ (bJ _ (bQ ..))];exact h.1.2.1
theorem abs(a b:List iM)(t:Nat):WG (a++b) t=WG a (WG b t):=by cases a<;>rfl
theorem ou {a b:List iM}:BI nd (a++b) t↔BI nd a (WG b t)∧BI nd b t:=by
 induction a with
 |nil=>simp [BI]
 |cons x a ih=>rw [List.cons_append,BI,BI,ih,abs,and_assoc]
theorem BI.Uj(h:BI nd c t)(hx:x∈c):∃n,MS nd x n:=by
 obtain⟨a,b,rfl⟩:=oL hx
 exact⟨_,(ou.1 h).2.1⟩
theorem BI.aqu (h:BI nd (c++[y]) t) (Jf:(iX (c++[y])).Nodup) (hy:gm[y.e]?=some (y.node u)) (hk:∀i∈iX (c++[y]),i≠y.e→gm[i]?=nd[i]?):BI gm (c++[y]) u:=by
 rw [ou]at h ⊢
 rw [iE]at Jf hk
 have nin:y.e∉iX c:=fun hm=>(cu.1 Jf).2.2 _ hm _ (bQ ..) rfl
 have nk:y.k≠y.e:=fun e=>by
  have:=(cu.1 Jf).2.1
  rw [gS,cV]at this
  exact this.1 (by rw [←e];exact bQ ..)
 refine⟨h.1.eG fun i hi=>hk i (bW _ hi) fun e=>nin (e▸hi),⟨hy,?_,h.2.1.2.2⟩,trivial⟩
 rw [hk _ (bK _ (bJ _ (bQ ..))) nk]
 exact h.2.1.2.1
end
structure rI where
 id:Nat
 j:Nat
 cs:List (List iM)
def rI.dc(A:rI):List iM:=A.cs.flatten
def rI.fW(A:rI)(i:Nat)(c:List iM):rI:={A with cs:=A.cs.set i c}
structure TD where
 t:Nat
 df:Nat
 nw:rI
 od:Option rI
 mv:Nat
namespace TD
def CU(T:TD):Nat:=match T.od with|some o=>o.id|none=>0
def Bc(T:TD):List iM:=match T.od with|some o=>o.dc|none=>[]
def dc(T:TD):List iM:=T.nw.dc++T.Bc
def nV(T:TD):LN:=T.t::T.nw.id::(match T.od with|some o=>[o.id] |none=>[])
def dN(T:TD):LN:=T.nV++iX T.dc
def pick(T:TD)(h:Nat):rI:=match T.od with|some o=>if T.mv≤bk o.j h then o else T.nw|none=>T.nw
def pX(T:TD)(h:Nat):Nat:=bk (T.pick h).j h
def chain(T:TD)(h:Nat):List iM:=(T.pick h).cs.getD (T.pX h) []
def fW(T:TD)(h:Nat)(c:List iM):TD:=match T.od with
 |some o=>if T.mv≤bk o.j h then {T with od:=some (o.fW (bk o.j h) c)}else {T with nw:=T.nw.fW (bk T.nw.j h) c}
 |none=>{T with nw:=T.nw.fW (bk T.nw.j h) c}
end TD
def tN(l:LN)(i:Nat):Option Nat→LN
 |none=>l
 |some z=>l.set i z
structure gD (nd:List di) (T:TD) (lo:Nat) (z:Option Nat) (n:Nat):Prop where
 tn:nd[T.t]?=some ⟨4,[T.nw.id,T.CU],[T.df,n,T.mv]⟩
 wn:nd[T.nw.id]?=some ⟨5,T.nw.cs.map lL,[]⟩
 wo:∀o,T.od=some o→nd[o.id]?=some ⟨5,tN (o.cs.map lL) lo z,[]⟩
 ln:T.nw.cs.length=2 ^ T.nw.j
 F3:∀o,T.od=some o→o.cs.length=2 ^ o.j
 jn:T.nw.j≤20
 jo:∀o,T.od=some o→o.j≤20
 sn:∀i c,T.nw.cs[i]?=some c→BI nd c 0∧∀x∈c,bk T.nw.j x.hs=i
 so:∀o,T.od=some o→∀i c,o.cs[i]?=some c→BI nd c 0∧∀x∈c,bk o.j x.hs=i
 sp:∀o,T.od=some o→(∀x∈o.dc,lo≤bk o.j x.hs)∧(∀x∈T.nw.dc,bk o.j x.hs<T.mv)∧lo≤T.mv∧T.mv≤2 ^ o.j
 hs:∀x∈T.dc,x.hs<18446744073709551616
 CV:T.dN.Nodup
 nz:∀i∈T.dN,i≠0
 mz:T.od=none→T.mv=0
structure yT (nd:List di) (T:TD):Prop where
 g:gD nd T T.mv none T.dc.length
 mv:∀o,T.od=some o→T.mv<2 ^ o.j
 j2:2≤T.nw.j∧∀o,T.od=some o→2≤o.j
section
variable {α:Type}
theorem zD:∀ {l:List (List α)} {i:Nat} {c:List α},l[i]?=some c→l.flatten=(l.take i).flatten++(c++(l.drop (i+1)).flatten):=by
 intro l i c h
 obtain⟨hi,rfl⟩:=bp.1 h
 conv=>lhs;rw [←eZ i l,d8 hi,ki,pM]
theorem Bo {l:List (List α)} {i:Nat} {c:List α} (h:l[i]?=some c):∃r,l.flatten.Perm (c++r)∧∀c',(l.set i c').flatten.Perm (c'++r):=by
 have hi:=(bp.1 h).1
 refine⟨(l.take i).flatten++(l.drop (i+1)).flatten,?_,fun c'=>?_⟩
 ·rw [zD h,←ce,←ce]
  exact ii _ ju
 ·have h':(l.set i c')[i]?=some c':=cE hi
  rw [zD h',List.take_set_of_le (bH _),List.drop_set_of_lt (by omega),←ce,←ce]
  exact ii _ ju
theorem iC {l:List (List α)} {x:α} (h:x∈l.flatten):∃(i:Nat) (c:List α),l[i]?=some c∧x∈c:=by
 obtain⟨c,hc,hx⟩:=dY.1 h
 obtain⟨i,hi⟩:=bT.1 hc
 exact⟨i,c,hi,hx⟩
end
section
variable {nd gm:List di} {T:TD} {lo n h:Nat} {z:Option Nat} {c:List iM} {x y:iM}
theorem TD.jO(T:TD):T.t∈T.dN:=bW _ (bQ ..)
theorem TD.nU(T:TD):T.nw.id∈T.dN:=bW _ (bJ _ (bQ ..))
theorem TD.rG {o:rI}(h:T.od=some o):o.id∈T.dN:=bW _ (by unfold TD.nV;rw [h];simp)
theorem TD.pq(h:x∈T.dc):x.e∈T.dN:=bK _ (fJ h)
theorem TD.EZ(h:x∈T.dc):x.k∈T.dN:=bK _ (iK h)
theorem TD.qV {o:rI}(h:T.od=some o):T.CU=o.id:=by unfold TD.CU;rw [h]
theorem TD.uV(h:T.od=none):T.CU=0:=by unfold TD.CU;rw [h]
theorem TD.iu {o:rI}(h:T.od=some o):T.Bc=o.dc:=by unfold TD.Bc;rw [h]
theorem TD.zX(h:T.od=none):T.Bc=[]:=by unfold TD.Bc;rw [h]
theorem gD.len(g:gD nd T lo z n)(h:Nat):(T.pick h).cs.length=2 ^ (T.pick h).j:=by
 unfold TD.pick
 cases ho:T.od with
 |none=>exact g.ln
 |some o=>dsimp only;split;exact g.F3 o ho;exact g.ln
theorem gD.pj(g:gD nd T lo z n)(h:Nat):(T.pick h).j≤20:=by
 unfold TD.pick
 cases ho:T.od with
 |none=>exact g.jn
 |some o=>dsimp only;split;exact g.jo o ho;exact g.jn
theorem gD.ai9(g:gD nd T lo z n){h:Nat}(hh:h<18446744073709551616):T.pX h<(T.pick h).cs.length:=by
 rw [g.len];exact Ih (by have:=g.pj h;omega) hh
theorem gD.lX(g:gD nd T lo z n){h:Nat}(hh:h<18446744073709551616):(T.pick h).cs[T.pX h]?=some (T.chain h):=by
 unfold TD.chain
 rw [bB,br (g.ai9 hh)];rfl
theorem gD.TZ(g:gD nd T lo z n){h:Nat}(hh:h<18446744073709551616):BI nd (T.chain h) 0∧∀x∈T.chain h,bk (T.pick h).j x.hs=T.pX h:=by
 have e:=g.lX hh
 revert e
 unfold TD.pX TD.pick
 cases ho:T.od with
 |none=>exact g.sn _ _
 |some o=>dsimp only;split;exact g.so o ho _ _;exact g.sn _ _
theorem gD.Bb(g:gD nd T lo z n)(h:Nat):(T.pick h).id∈T.dN:=by
 unfold TD.pick
 cases ho:T.od with
 |none=>exact T.nU
 |some o=>dsimp only;split;exact TD.rG ho;exact T.nU
theorem TD.SM {x:iM}(h:Nat)(hx:x∈(T.pick h).dc):x∈T.dc:=by
 revert hx
 unfold TD.pick TD.dc TD.Bc
 cases ho:T.od with
 |none=>exact fun hx=>bW _ hx
 |some o=>dsimp only;split;exact fun hx=>bK _ hx;exact fun hx=>bW _ hx
theorem gD.lu(g:gD nd T lo z n){h:Nat}(hh:h<18446744073709551616)(hx:x∈T.chain h):x∈T.dc :=
 TD.SM h (dY.2 ⟨_,bx (g.lX hh),hx⟩)
theorem gD.By(g:gD nd T T.mv none n)(hx:x∈T.dc):x∈T.chain x.hs:=by
 have hh:=g.hs x hx
 rcases bI.1 hx with h|h
 ·obtain⟨i,c,hc,Ly⟩:=iC h
  have hb:=(g.sn i c hc).2 x Ly
  have e:T.pick x.hs=T.nw:=by
   unfold TD.pick
   cases ho:T.od with
   |none=>rfl
   |some o=>dsimp only;rw [if_neg];have:=(g.sp o ho).2.1 x h;omega
  have:=g.lX hh
  unfold TD.pX at this
  rw [e,hb,hc]at this
  rw [←bt this];exact Ly
 ·cases ho:T.od with
  |none=>rw [TD.zX ho]at h;cases h
  |some o =>
   rw [TD.iu ho]at h
   obtain⟨i,c,hc,Ly⟩:=iC h
   have hb:=(g.so o ho i c hc).2 x Ly
   have e:T.pick x.hs=o:=by
    unfold TD.pick
    rw [ho];dsimp only;rw [if_pos];exact(g.sp o ho).1 x h
   have:=g.lX hh
   unfold TD.pX at this
   rw [e,hb,hc]at this
   rw [←bt this];exact Ly
theorem TD.zP(T:TD)(h:Nat)(c:List iM):(T.fW h c).t=T.t∧(T.fW h c).df=T.df∧(T.fW h c).mv=T.mv∧(T.fW h c).nw.id=T.nw.id∧(T.fW h c).nw.j=T.nw.j∧(T.fW h c).CU=T.CU∧(T.fW h c).od.map (fun o=>(o.id,o.j))=T.od.map (fun o=>(o.id,o.j))∧(T.fW h c).nV=T.nV:=by
 unfold TD.fW TD.CU TD.nV
 cases ho:T.od with
 |none=>exact⟨rfl,rfl,rfl,rfl,rfl,by simp [ho],by simp [ho],by simp [ho,rI.fW]⟩
 |some o=>dsimp only;split<;>simp [ho,rI.fW]
theorem gD.lS(g:gD nd T lo z n){h:Nat}(hh:h<18446744073709551616):∃r,T.dc.Perm (T.chain h++r)∧∀c,(T.fW h c).dc.Perm (c++r):=by
 have e:=g.lX hh
 obtain⟨r,h1,h2⟩:=Bo e
 unfold TD.pX TD.pick at *
 unfold TD.fW TD.dc TD.Bc
 cases ho:T.od with
 |none =>
  rw [ho]at e h1 h2
  dsimp only at e h1 h2 ⊢
  simp only [ho,eV]
  exact⟨r,h1,h2⟩
 |some o =>
  rw [ho]at e h1 h2
  dsimp only at e h1 h2 ⊢
  by_cases hb:T.mv≤bk o.j h
  ·rw [if_pos hb]at e h1 h2
   refine⟨T.nw.dc++r,?_,fun c=>?_⟩
   ·rw [←ce]
    refine(mQ _ h1).trans ?_
    rw [←ce]
    exact ii _ ju
   ·rw [if_pos hb]
    dsimp only
    rw [←ce]
    refine(mQ _ (h2 c)).trans ?_
    rw [←ce]
    exact ii _ ju
  ·rw [if_neg hb]at e h1 h2
   refine⟨r++o.dc,?_,fun c=>?_⟩
   ·rw [←ce]
    exact ii _ h1
   ·rw [if_neg hb]
    simp only [ho]
    rw [←ce]
    exact ii _ (h2 c)
theorem gD.eG(g:gD nd T lo z n)(hk:∀i∈T.dN,gm[i]?=nd[i]?):gD gm T lo z n:=by
 refine⟨by rw [hk _ T.jO];exact g.tn,by rw [hk _ T.nU];exact g.wn,fun o ho=>by rw [hk _ (TD.rG ho)];exact g.wo o ho,g.ln,g.F3,g.jn,g.jo,fun i c hc=>⟨(g.sn i c hc).1.eG fun y hy=>hk y ?_,(g.sn i c hc).2⟩,fun o ho i c hc=>⟨(g.so o ho i c hc).1.eG fun y hy=>hk y ?_,(g.so o ho i c hc).2⟩,g.sp,g.hs,g.CV,g.nz,g.mz⟩
 ·obtain⟨x,hx,e⟩:=iR.1 hy
  have hm:x∈T.dc:=bW _ (dY.2 ⟨c,bx hc,hx⟩)
  rcases e with rfl|rfl;exact TD.pq hm;exact TD.EZ hm
 ·obtain⟨x,hx,e⟩:=iR.1 hy
  have hm:x∈T.dc:=bK _ (by rw [TD.iu ho];exact dY.2 ⟨c,bx hc,hx⟩)
  rcases e with rfl|rfl;exact TD.pq hm;exact TD.EZ hm
theorem yT.eG(g:yT nd T)(hk:∀i∈T.dN,gm[i]?=nd[i]?):yT gm T:=⟨g.g.eG hk,g.mv,g.j2⟩
end
section
variable {nd gm:List di} {T:TD} {lo n n' h:Nat} {z:Option Nat} {c c':List iM} {x y:iM} {A o:rI}
theorem gD.uo(g:gD nd T lo z n):T.nV.Nodup∧(iX T.dc).Nodup∧∀i∈T.nV,i∉iX T.dc:=by
 have:=cu.1 g.CV
 exact⟨this.1,this.2.1,fun i hi hj=>this.2.2 i hi i hj rfl⟩
theorem gD.n_t(g:gD nd T lo z n)(h:Nat):(T.pick h).id≠T.t:=by
 have d:=g.uo.1
 unfold TD.nV at d
 rw [cV]at d
 unfold TD.pick
 cases ho:T.od with
 |none=>exact fun e=>d.1 (by dsimp only at e;rw [←e];exact bQ ..)
 |some o =>
  rw [ho]at d
  dsimp only
  split
  ·exact fun e=>d.1 (by rw [←e];simp)
  ·exact fun e=>d.1 (by rw [←e];simp)
theorem gD.o_n(g:gD nd T lo z n)(ho:T.od=some o):o.id≠T.nw.id:=by
 have d:=g.uo.1
 unfold TD.nV at d
 rw [ho,cV,cV]at d
 exact fun e=>d.2.1 (by rw [←e];simp)
theorem gD.Kn(g:gD nd T lo z n){i:Nat}(hi:i∈iX T.dc):i≠T.t∧(∀h,i≠(T.pick h).id)∧i≠T.nw.id∧∀o,T.od=some o→i≠o.id:=by
 have d:=g.uo.2.2
 have dn:i≠T.nw.id:=fun e=>d _ (by unfold TD.nV;simp) (e▸hi)
 have dd:∀o,T.od=some o→i≠o.id:=fun o ho e=>d o.id (by unfold TD.nV;rw [ho];simp) (e▸hi)
 refine⟨fun e=>d T.t (bQ ..) (e▸hi),fun h=>?_,dn,dd⟩
 unfold TD.pick
 cases ho:T.od with
 |none=>exact dn
 |some o=>dsimp only;split;exact dd o ho;exact dn
theorem gD.apart(g:gD nd T lo z n)(hh:h<18446744073709551616)(hx:x∈T.dc)(hn:x∉T.chain h):∀i,i=x.e∨i=x.k→i∉iX (T.chain h):=by
 obtain⟨r,h1,_⟩:=g.lS hh
 have hr:x∈r:=(bI.1 (h1.mem_iff.1 hx)).resolve_left hn
 have d:=(iT h1).nodup_iff.1 g.uo.2.1
 rw [iE,cu]at d
 intro i hi hc
 refine d.2.2 i hc i ?_ rfl
 rcases hi with rfl|rfl
 ·exact fJ hr
 ·exact iK hr
theorem gD.inj(g:gD nd T lo z n)(hx:x∈T.nw.dc):x∉T.Bc:=fun hy=>by
 have d:=g.uo.2.1
 unfold TD.dc at d
 rw [iE,cu]at d
 exact d.2.2 _ (fJ hx) _ (fJ hy) rfl
theorem gD.oR(g:gD nd T lo z n)(hh:h<18446744073709551616)(A:rI)(hA:A=T.nw∨T.od=some A){i:Nat}(hc:A.cs[i]?=some c)(iS:A.id=(T.pick h).id→i≠T.pX h):∀x∈c,x∈T.dc∧x∉T.chain h:=by
 intro x hx
 have hxA:x∈A.dc:=dY.2 ⟨c,bx hc,hx⟩
 have hxT:x∈T.dc:=by
  rcases hA with rfl|hA
  ·exact bW _ hxA
  ·exact bK _ (by rw [TD.iu hA];exact hxA)
 refine⟨hxT,fun hx2=>?_⟩
 have hb:=(g.TZ hh).2 x hx2
 have hP:x∈(T.pick h).dc:=dY.2 ⟨_,bx (g.lX hh),hx2⟩
 have hpk:T.pick h=T.nw∨∃o,T.od=some o∧T.pick h=o:=by
  unfold TD.pick
  cases ho:T.od with
  |none=>exact .inl rfl
  |some o=>dsimp only;split;exact .inr ⟨o,rfl,rfl⟩;exact .inl rfl
 rcases hA with rfl|hA<;>rcases hpk with hp|⟨o,ho,hp⟩
 ·have:=(g.sn i c hc).2 x hx
  rw [hp,this]at hb
  exact iS (by rw [hp]) hb
 ·rw [hp]at hP
  exact g.inj hxA (by rw [TD.iu ho];exact hP)
 ·rw [hp]at hP
  exact g.inj hP (by rw [TD.iu hA];exact hxA)
 ·rw [hA]at ho
  obtain rfl:=bt ho
  have:=(g.so A hA i c hc).2 x hx
  rw [hp,this]at hb
  exact iS (by rw [hp]) hb
theorem Ji {l:List (List iM)} {i:Nat}:(l.set i c).map lL=(l.map lL).set i (lL c):=by rw [ig]
theorem xu {α:Type}{l:List α}{i j:Nat}{a b:α}(h:(l.set i a)[j]?=some b):(j=i∧b=a)∨(j≠i∧l[j]?=some b):=by
 by_cases e:j=i
 ·subst e
  have hl:=(bp.1 h).1
  rw [cE (by simpa using hl)]at h
  exact .inl ⟨rfl,(bt h).symm⟩
 ·rw [dl (Ne.symm e)]at h
  exact .inr ⟨e,h⟩
theorem gD.change(g:gD nd T lo z n)(hh:h<18446744073709551616)(hz:∀o,T.od=some o→T.mv≤bk o.j h→z=none)
  (hc:BI gm c' 0) (hb:∀x∈c',bk (T.pick h).j x.hs=T.pX h) (asR:∀x∈c',x.hs<18446744073709551616)
  (hp:∀o,T.od=some o→¬T.mv≤bk o.j h→∀x∈c',bk o.j x.hs<T.mv)
  (ha:gm[(T.pick h).id]?=some ⟨5,((T.pick h).cs.map lL).set (T.pX h) (lL c'),[]⟩) (ht:gm[T.t]?=some ⟨4,[T.nw.id,T.CU],[T.df,n',T.mv]⟩)
  (hk:∀i∈T.dN,i≠T.t→i≠(T.pick h).id→i∉iX (T.chain h)→gm[i]?=nd[i]?)
  (amL:(T.fW h c').dN.Nodup) (hnz:∀i∈(T.fW h c').dN,i≠0):gD gm (T.fW h c') lo z n':=by
 obtain⟨q1,q2,q3,q4,q5,q6,q7,q8⟩:=T.zP h c'
 have oth:∀(A:rI) (hA:A=T.nw∨T.od=some A) (i:Nat) (c:List iM),A.cs[i]?=some c→(A.id=(T.pick h).id→i≠T.pX h)→BI nd c 0→BI gm c 0:=fun A hA i c hc iS hs=>by
  refine hs.eG fun y hy=>?_
  obtain⟨x,hx,e⟩:=iR.1 hy
  obtain⟨m1,m2⟩:=g.oR hh A hA hc iS x hx
  have hyT:y∈iX T.dc:=by rcases e with rfl|rfl;exact fJ m1;exact iK m1
  have:=g.Kn hyT
  exact hk y (bK _ hyT) this.1 (this.2.1 h) (g.apart hh m1 m2 y e)
 have h64:∀x∈(T.fW h c').dc,x.hs<18446744073709551616:=fun x hx=>by
  obtain⟨r,p1,p2⟩:=g.lS hh
  rcases bI.1 ((p2 c').mem_iff.1 hx)with hx|hx
  ·exact asR x hx
  ·exact g.hs x (p1.mem_iff.2 (bK _ hx))
 refine⟨by rw [q1,q2,q3,q4,q6];exact ht,?_,?_,?_,?_,by rw [q5];exact g.jn,?_,?_,?_,?_,h64,amL,hnz,?_⟩
 all_goals
  clear h64 amL hnz q1 q2 q3 q4 q5 q6 q7 q8
 ·
  unfold TD.fW
  unfold TD.pX TD.pick at ha
  cases ho:T.od with
  |none =>
   rw [ho]at ha
   dsimp only at ha ⊢
   unfold rI.fW;dsimp only;rw [Ji];exact ha
  |some o =>
   rw [ho]at ha
   dsimp only at ha ⊢
   by_cases hm:T.mv≤bk o.j h
   ·rw [if_pos hm]
    dsimp only
    have e:=hk T.nw.id T.nU (fun e=>by have:=g.uo.1;unfold TD.nV at this;rw [cV]at this;exact this.1 (by rw [←e];exact bQ ..)) (by unfold TD.pick;rw [ho];dsimp only;rw [if_pos hm];exact Ne.symm (g.o_n ho)) fun hm2=>by
     obtain⟨x,hx,e⟩:=iR.1 hm2
     have:=g.lu hh hx
     rcases e with e|e
     ·exact(g.Kn (fJ this)).2.2.1 e.symm
     ·exact(g.Kn (iK this)).2.2.1 e.symm
    rw [e];exact g.wn
   ·rw [if_neg hm]at ha ⊢
    unfold rI.fW;dsimp only;rw [Ji];exact ha
 ·
  intro o' ij
  unfold TD.fW at ij
  unfold TD.pX TD.pick at ha
  cases ho:T.od with
  |none=>rw [ho]at ij;cases ij
  |some o =>
   rw [ho]at ha ij
   dsimp only at ha ij
   by_cases hm:T.mv≤bk o.j h
   ·rw [if_pos hm]at ij ha
    obtain rfl:=bt ij
    rw [hz o ho hm]
    unfold rI.fW tN;dsimp only;rw [Ji];exact ha
   ·rw [if_neg hm]at ij
    dsimp only at ij
    obtain rfl:=bt ij
    have e:=hk o.id (TD.rG ho) (fun e=>by have:=g.uo.1;unfold TD.nV at this;rw [ho,cV]at this;exact this.1 (by rw [←e];simp)) (by unfold TD.pick;rw [ho];dsimp only;rw [if_neg hm];exact g.o_n ho) fun hm2=>by
     obtain⟨x,hx,e⟩:=iR.1 hm2
     have:=g.lu hh hx
     rcases e with e|e
     ·exact(g.Kn (fJ this)).2.2.2 o ho e.symm
     ·exact(g.Kn (iK this)).2.2.2 o ho e.symm
    rw [e];exact g.wo o ho
 ·unfold TD.fW
  cases ho:T.od with
  |none=>dsimp only;unfold rI.fW;simpa using g.ln
  |some o=>dsimp only;split;exact g.ln;unfold rI.fW;simpa using g.ln
 ·intro o' ij
  unfold TD.fW at ij
  cases ho:T.od with
  |none=>rw [ho]at ij;cases ij
  |some o =>
   rw [ho]at ij
   dsimp only at ij
   split at ij
   ·obtain rfl:=bt ij;unfold rI.fW;simpa using g.F3 o ho
   ·obtain rfl:=bt ij;exact g.F3 o ho
 ·intro o' ij
  unfold TD.fW at ij
  cases ho:T.od with
  |none=>rw [ho]at ij;cases ij
  |some o =>
   rw [ho]at ij
   dsimp only at ij
   split at ij
   ·obtain rfl:=bt ij;exact g.jo o ho
   ·obtain rfl:=bt ij;exact g.jo o ho
 ·
  intro i c1 Dp
  have zd:T.pick h=T.nw→∀x∈c',bk T.nw.j x.hs=bk T.nw.j h:=fun e x hx=>by
   have:=hb x hx
   unfold TD.pX at this
   rw [e]at this;exact this
  unfold TD.fW at Dp ⊢
  cases ho:T.od with
  |none =>
   have pk:T.pick h=T.nw:=by unfold TD.pick;rw [ho]
   rw [ho]at Dp
   dsimp only at Dp ⊢
   rcases xu Dp with⟨rfl,rfl⟩|⟨iS,xO⟩
   ·exact⟨hc,zd pk⟩
   ·exact⟨oth T.nw (.inl rfl) i c1 xO (fun _=>by unfold TD.pX;rw [pk];exact iS) (g.sn i c1 xO).1,(g.sn i c1 xO).2⟩
  |some o =>
   rw [ho]at Dp
   dsimp only at Dp ⊢
   by_cases hm:T.mv≤bk o.j h
   ·rw [if_pos hm]at Dp ⊢
    have pk:T.pick h=o:=by unfold TD.pick;rw [ho];dsimp only;rw [if_pos hm]
    dsimp only at Dp ⊢
    exact⟨oth T.nw (.inl rfl) i c1 Dp (fun e=>absurd e (by rw [pk];exact Ne.symm (g.o_n ho))) (g.sn i c1 Dp).1,(g.sn i c1 Dp).2⟩
   ·rw [if_neg hm]at Dp ⊢
    have pk:T.pick h=T.nw:=by unfold TD.pick;rw [ho];dsimp only;rw [if_neg hm]
    dsimp only at Dp ⊢
    rcases xu Dp with⟨rfl,rfl⟩|⟨iS,xO⟩
    ·exact⟨hc,zd pk⟩
    ·exact⟨oth T.nw (.inl rfl) i c1 xO (fun _=>by unfold TD.pX;rw [pk];exact iS) (g.sn i c1 xO).1,(g.sn i c1 xO).2⟩
 ·
  intro o' ij i c1 Dp
  unfold TD.fW at ij
  cases ho:T.od with
  |none=>rw [ho]at ij;cases ij
  |some o =>
   rw [ho]at ij
   dsimp only at ij
   by_cases hm:T.mv≤bk o.j h
   ·rw [if_pos hm]at ij
    have pk:T.pick h=o:=by unfold TD.pick;rw [ho];dsimp only;rw [if_pos hm]
    obtain rfl:=bt ij
    rcases xu Dp with⟨rfl,rfl⟩|⟨iS,xO⟩
    ·refine⟨hc,fun x hx=>?_⟩
     have:=hb x hx
     unfold TD.pX at this
     rw [pk]at this;exact this
    ·exact⟨oth o (.inr ho) i c1 xO (fun _=>by unfold TD.pX;rw [pk];exact iS) (g.so o ho i c1 xO).1,(g.so o ho i c1 xO).2⟩
   ·rw [if_neg hm]at ij
    dsimp only at ij
    obtain rfl:=bt ij
    have pk:T.pick h=T.nw:=by unfold TD.pick;rw [ho];dsimp only;rw [if_neg hm]
    exact⟨oth o (.inr ho) i c1 Dp (fun e=>absurd e (by rw [pk];exact g.o_n ho)) (g.so o ho i c1 Dp).1,(g.so o ho i c1 Dp).2⟩
 ·
  intro o' ij
  unfold TD.fW at ij ⊢
  have inA:∀ {A:rI} {i:Nat} {c:List iM} {x:iM},x∈(A.fW i c).dc→x∈c∨x∈A.dc:=fun {A i c x} hx=>by
   obtain⟨j,d,hd,hxd⟩:=iC hx
   rcases xu hd with⟨_,rfl⟩|⟨_,hd2⟩
   ·exact .inl hxd
   ·exact .inr (dY.2 ⟨d,bx hd2,hxd⟩)
  cases ho:T.od with
  |none=>rw [ho]at ij;cases ij
  |some o =>
   rw [ho]at ij
   dsimp only at ij ⊢
   obtain⟨s1,s2,s3,s4⟩:=g.sp o ho
   by_cases hm:T.mv≤bk o.j h
   ·rw [if_pos hm]at ij ⊢
    obtain rfl:=bt ij
    have pk:T.pick h=o:=by unfold TD.pick;rw [ho];dsimp only;rw [if_pos hm]
    refine⟨fun x hx=>?_,s2,s3,s4⟩
    rcases inA hx with hx|hx
    ·have:=hb x hx
     unfold TD.pX at this
     rw [pk]at this
     show lo≤bk o.j x.hs
     omega
    ·exact s1 x hx
   ·rw [if_neg hm]at ij ⊢
    dsimp only at ij
    obtain rfl:=bt ij
    refine⟨s1,fun x hx=>?_,s3,s4⟩
    rcases inA hx with hx|hx
    ·exact hp o ho hm x hx
    ·exact s2 x hx
 ·intro ij
  unfold TD.fW at ij ⊢
  cases ho:T.od with
  |none=>exact g.mz ho
  |some o =>
   rw [ho]at ij
   dsimp only at ij
   split at ij
   ·cases ij
   ·cases ij
end
section
variable {nd gm:List di} {T:TD} {lo n n' h:Nat} {z:Option Nat} {c c' p s:List iM} {x y x':iM} {A o:rI}
theorem TD.uN(T:TD)(h:Nat)(c:List iM):(T.fW h c).dN=T.nV++iX (T.fW h c).dc:=by
 unfold TD.dN;rw [(T.zP h c).2.2.2.2.2.2.2]
theorem gD.E7(g:gD nd T lo z n)(hh:h<18446744073709551616)(c':List iM)(hn:(iX c').Nodup) (hf:∀i∈iX c',i∈iX (T.chain h)∨i∉T.dN) (hz:∀i∈iX c',i≠0) :
  (T.fW h c').dN.Nodup∧(∀i∈(T.fW h c').dN,i≠0)∧(∀i∈(T.fW h c').dN,i∈T.dN∨i∈iX c'):=by
 obtain⟨r,p1,p2⟩:=g.lS hh
 obtain⟨d1,d2,d3⟩:=g.uo
 have d4:=(iT p1).nodup_iff.1 d2
 rw [iE,cu]at d4
 have pe:=iT (p2 c')
 rw [iE]at pe
 have rT:∀i∈iX r,i∈T.dN:=fun i hi=>bK _ ((iT p1).mem_iff.2 (by rw [iE];exact bK _ hi))
 have cT:∀i∈iX (T.chain h),i∈iX T.dc:=fun i hi=>(iT p1).mem_iff.2 (by rw [iE];exact bW _ hi)
 rw [T.uN]
 refine⟨?_,fun i hi=>?_,fun i hi=>?_⟩
 ·rw [cu]
  refine⟨d1,pe.nodup_iff.2 ?_,fun i hi j hj e=>?_⟩
  ·rw [cu]
   refine⟨hn,d4.2.1,fun i hi j hj e=>?_⟩
   subst e
   rcases hf i hi with h1|h1
   ·exact d4.2.2 i h1 i hj rfl
   ·exact h1 (rT i hj)
  ·subst e
   rcases bI.1 (pe.mem_iff.1 hj)with hj|hj
   ·rcases hf i hj with h1|h1
    ·exact d3 i hi (cT i h1)
    ·exact h1 (bW _ hi)
   ·exact d3 i hi ((iT p1).mem_iff.2 (by rw [iE];exact bK _ hj))
 ·rcases bI.1 hi with hi|hi
  ·exact g.nz i (bW _ hi)
  ·rcases bI.1 (pe.mem_iff.1 hi)with hi|hi
   ·exact hz i hi
   ·exact g.nz i (rT i hi)
 ·rcases bI.1 hi with hi|hi
  ·exact .inl (bW _ hi)
  ·rcases bI.1 (pe.mem_iff.1 hi)with hi|hi
   ·exact .inr hi
   ·exact .inl (rT i hi)
theorem gD.qy(g:gD nd T lo z n)(hh:h<18446744073709551616):∀i∈iX (T.chain h),i∈iX T.dc:=fun i hi=>by
 obtain⟨y,hy,e⟩:=iR.1 hi
 have:=g.lu hh hy
 rcases e with rfl|rfl
 ·exact fJ this
 ·exact iK this
theorem gD.Cv(g:gD nd T lo z n)(hh:h<18446744073709551616):(iX (T.chain h)).Nodup:=by
 obtain⟨r,p1,_⟩:=g.lS hh
 have d4:=(iT p1).nodup_iff.1 g.uo.2.1
 rw [iE,cu]at d4
 exact d4.1
theorem gD.push(g:gD nd T lo z n)(hh:x.hs<18446744073709551616)(hz:∀o,T.od=some o→T.mv≤bk o.j x.hs→z=none)(f1:x.e∉T.dN)(f2:x.k∉T.dN)(f3:x.e≠x.k)(z1:x.e≠0)(z2:x.k≠0)
  (he:MS gm x (lL (T.chain x.hs))) (ha:gm[(T.pick x.hs).id]?=some ⟨5,((T.pick x.hs).cs.map lL).set (T.pX x.hs) x.e,[]⟩) (ht:gm[T.t]?=some ⟨4,[T.nw.id,T.CU],[T.df,n',T.mv]⟩)
  (hk:∀i∈T.dN,i≠T.t→i≠(T.pick x.hs).id→gm[i]?=nd[i]?):gD gm (T.fW x.hs (x::T.chain x.hs)) lo z n':=by
 obtain⟨sg,sb⟩:=g.TZ hh
 have hkc:∀i∈iX (T.chain x.hs),gm[i]?=nd[i]?:=fun i hi=>by
  have Jh:=g.qy hh i hi
  have:=g.Kn Jh
  exact hk i (bK _ Jh) this.1 (this.2.1 _)
 obtain⟨i1,i2,_⟩:=g.E7 hh (x::T.chain x.hs) (by
  rw [gS,cV,cV]
  refine⟨fun hm=>?_,fun hm=>f2 (bK _ (g.qy hh _ hm)),g.Cv hh⟩
  rcases ck.1 hm with e|hm
  ·exact f3 e
  ·exact f1 (bK _ (g.qy hh _ hm))) (fun i hi=>by
  rw [gS]at hi
  rcases ck.1 hi with rfl|hi
  ·exact .inr f1
  rcases ck.1 hi with rfl|hi
  ·exact .inr f2
  ·exact .inl hi) fun i hi=>by
  rw [gS]at hi
  rcases ck.1 hi with rfl|hi
  ·exact z1
  rcases ck.1 hi with rfl|hi
  ·exact z2
  ·exact g.nz i (bK _ (g.qy hh i hi))
 refine g.change hh hz ⟨he,sg.eG hkc⟩ (fun y hy=>?_) (fun y hy=>?_) (fun o ho hm y hy=>?_) ha ht (fun i hi a b c=>hk i hi a b) i1 i2
 ·rcases ck.1 hy with rfl|hy
  ·rfl
  ·exact sb y hy
 ·rcases ck.1 hy with rfl|hy
  ·exact hh
  ·exact g.hs y (g.lu hh hy)
 ·rcases ck.1 hy with rfl|hy
  ·omega
  ·have pk:T.pick x.hs=T.nw:=by unfold TD.pick;rw [ho];dsimp only;rw [if_neg hm]
   refine(g.sp o ho).2.1 y ?_
   rw [←pk]
   exact dY.2 ⟨_,bx (g.lX hh),hy⟩
def lW(A:rI)(i:Nat)(p:List iM):Nat × Nat:=match p.getLast? with|none=>(A.id,i)|some y=>(y.e,0)
theorem Fa(A:rI)(i:Nat):lW A i []=(A.id,i):=rfl
theorem jM(A:rI)(i:Nat)(p:List iM)(y:iM):lW A i (p++[y])=(y.e,0):=by unfold lW;simp
theorem tW(p:List iM):p=[]∨∃q y,p=q++[y]:=by
 rcases List.eq_nil_or_concat p with h|⟨q,y,h⟩
 ·exact .inl h
 ·exact .inr ⟨q,y,by simpa using h⟩
theorem gD.cut(g:gD nd T T.mv none n)(hh:h<18446744073709551616)(LQ:T.chain h=p++x::s)
  (hv:∀i,gm[i]?=if i=(lW (T.pick h) (T.pX h) p).1 then(match p.getLast? with|none=>some ⟨5,((T.pick h).cs.map lL).set (T.pX h) (lL s),[]⟩|some y=>some (y.node (lL s)))
   else if i=T.t then some ⟨4,[T.nw.id,T.CU],[T.df,n',T.mv]⟩else nd[i]?) :
  gD gm (T.fW h (p++s)) T.mv none n':=by
 obtain⟨sg,sb⟩:=g.TZ hh
 rw [LQ]at sg sb
 obtain⟨sp,sx,ss⟩:=ou.1 sg |>.imp_right id
 have cn:=g.Cv hh
 rw [LQ]at cn
 have cT:∀i∈iX (p++x::s),i∈iX T.dc:=by rw [←LQ];exact g.qy hh
 have sub:∀i∈iX (p++s),i∈iX (p++x::s):=fun i hi=>by
  rw [iE]at hi ⊢
  rcases bI.1 hi with hi|hi
  ·exact bW _ hi
  ·exact bK _ (by rw [gS];exact bJ _ (bJ _ hi))
 have alI:(iX (p++s)).Nodup:=by
  rw [iE]at cn ⊢
  rw [cu,gS,cV,cV]at cn
  rw [cu]
  exact⟨cn.1,cn.2.1.2.2,fun i hi j hj=>cn.2.2 i hi j (bJ _ (bJ _ hj))⟩
 obtain⟨i1,i2,_⟩:=g.E7 hh (p++s) alI (fun i hi=>.inl (by rw [LQ];exact sub i hi)) fun i hi=>g.nz i (bK _ (cT i (sub i hi)))
 have pid:=g.Bb h
 have fV:∀y∈p++s,y∈T.chain h:=fun y hy=>by
  rw [LQ]
  rcases bI.1 hy with hy|hy
  ·exact bW _ hy
  ·exact bK _ (bJ _ hy)
 have sb':∀w∈T.chain h,bk (T.pick h).j w.hs=T.pX h:=by rw [LQ];exact sb
 have hsk:∀i∈iX s,i≠(lW (T.pick h) (T.pX h) p).1∧i≠T.t:=fun i hi=>by
  have Jh:i∈iX T.dc:=cT i (by rw [iE];exact bK _ (by rw [gS];exact bJ _ (bJ _ hi)))
  have q:=g.Kn Jh
  refine⟨?_,q.1⟩
  rcases tW p with rfl|⟨p,y,rfl⟩
  ·exact q.2.1 h
  ·rw [jM]
   rw [iE,cu]at cn
   exact fun e=>cn.2.2 y.e (fJ (bK _ (bQ ..))) i (by rw [gS];exact bJ _ (bJ _ hi)) e.symm
 refine g.change hh (fun _ _ _=>rfl) ?_ (fun y hy=>sb' y (fV y hy)) (fun y hy=>g.hs y (g.lu hh (fV y hy))) (fun o ho hm y hy=>?_) ?_ ?_ (fun i hi a b c=>?_) i1 i2
 ·rw [ou]
  have ss':BI gm s 0:=ss.eG fun i hi=>by rw [hv,if_neg (hsk i hi).1,if_neg (hsk i hi).2]
  refine⟨?_,ss'⟩
  rcases tW p with rfl|⟨p,y,rfl⟩
  ·trivial
  ·rw [iE,cu]at cn
   refine sp.aqu cn.1 ?_ fun i hi iS=>?_
   ·rw [hv,jM,if_pos rfl];simp
   ·have Jh:i∈iX T.dc:=cT i (by rw [iE];exact bW _ hi)
    rw [hv,jM,if_neg iS,if_neg (g.Kn Jh).1]
 ·have pk:T.pick h=T.nw:=by unfold TD.pick;rw [ho];dsimp only;rw [if_neg hm]
  refine(g.sp o ho).2.1 y ?_
  rw [←pk]
  exact dY.2 ⟨_,bx (g.lX hh),fV y hy⟩
 ·rcases tW p with rfl|⟨p,y,rfl⟩
  ·rw [hv,Fa,if_pos rfl];rfl
  ·have hyT:y.e∈iX T.dc:=cT _ (fJ (by simp))
   rw [hv,jM,if_neg (fun e=>(g.Kn hyT).2.1 h e.symm),if_neg (g.n_t h)]
   have hd:lL ((p++[y])++s)=lL (T.chain h):=by
    rw [LQ]
    cases p<;>rfl
   rw [hd]
   have ea:=g.lX hh
   have e2:((T.pick h).cs.map lL).set (T.pX h) (lL (T.chain h))=(T.pick h).cs.map lL:=by
    refine cG fun j=>?_
    have e3:((T.pick h).cs.map lL)[T.pX h]?=some (lL (T.chain h)):=by rw [bD,ea];rfl
    rw [BQ e3]
    by_cases ej:j=T.pX h
    ·rw [if_pos ej,ej,e3]
    ·rw [if_neg ej]
   rw [e2]
   unfold TD.pick
   cases ho:T.od with
   |none=>exact g.wn
   |some o=>dsimp only;split;exact g.wo o ho;exact g.wn
 ·rw [hv]
  by_cases e:T.t=(lW (T.pick h) (T.pX h) p).1
  ·exfalso
   rcases tW p with rfl|⟨p,y,rfl⟩
   ·exact g.n_t h e.symm
   ·rw [jM]at e
    exact(g.Kn (cT _ (fJ (x:=y) (by simp)))).1 e.symm
  ·rw [if_neg e,if_pos rfl]
 ·rw [hv,if_neg,if_neg a]
  rcases tW p with rfl|⟨p,y,rfl⟩
  ·exact b
  ·rw [jM]
   exact fun e=>c (by rw [LQ,e];exact fJ (by simp))
theorem gD.aqF(g:gD nd T T.mv none n)(hh:h<18446744073709551616)(LQ:T.chain h=p++x::s)(he:x'.e=x.e)(hk':x'.k=x.k)(amX:x'.key=x.key)(hhs:x'.hs=x.hs)
  (hv:∀i,gm[i]?=if i=x.e then some (x'.node (lL s))else nd[i]?):gD gm (T.fW h (p++x'::s)) T.mv none n:=by
 obtain⟨sg,sb⟩:=g.TZ hh
 rw [LQ]at sg sb
 obtain⟨sp,sx,ss⟩:=ou.1 sg
 have cn:=g.Cv hh
 rw [LQ]at cn
 have eq:iX (p++x'::s)=iX (p++x::s):=by rw [iE,iE,gS,gS,he,hk']
 have cT:∀i∈iX (p++x::s),i∈iX T.dc:=by rw [←LQ];exact g.qy hh
 obtain⟨i1,i2,_⟩:=g.E7 hh (p++x'::s) (eq▸cn) (fun i hi=>.inl (by rw [LQ,←eq];exact hi)) fun i hi=>g.nz i (bK _ (cT i (eq▸hi)))
 have hxT:x.e∈iX T.dc:=cT _ (fJ (by simp))
 have q:=g.Kn hxT
 have cn2:=cn
 rw [iE,cu,gS,cV,cV]at cn2
 have hd:lL (p++x'::s)=lL (T.chain h):=by
  rw [LQ]
  cases p with
  |nil=>exact he
  |cons _ _=>rfl
 have fV:∀y∈p++x'::s,∃w∈T.chain h,y.hs=w.hs:=fun y hy=>by
  rw [LQ]
  rcases bI.1 hy with hy|hy
  ·exact⟨y,bW _ hy,rfl⟩
  ·rcases ck.1 hy with rfl|hy
   ·exact⟨x,bK _ (bQ ..),hhs⟩
   ·exact⟨y,bK _ (bJ _ hy),rfl⟩
 have sb':∀w∈T.chain h,bk (T.pick h).j w.hs=T.pX h:=by rw [LQ];exact sb
 refine g.change hh (fun _ _ _=>rfl) ?_ (fun y hy=>?_) (fun y hy=>?_) (fun o ho hm y hy=>?_) ?_ ?_ (fun i hi a b c=>?_) i1 i2
 ·rw [ou]
  refine⟨?_,⟨?_,?_,amX▸sx.2.2⟩,ss.eG fun i hi=>?_⟩
  ·have e:WG (x'::s) 0=WG (x::s) 0:=he
   rw [e]
   refine sp.eG fun i hi=>?_
   rw [hv,if_neg]
   exact fun e=>cn2.2.2 i hi x.e (bQ ..) e
  ·rw [he,hv,if_pos rfl]
  ·rw [hk',amX,hv,if_neg fun e=>cn2.2.1.1 (by rw [←e];exact bQ ..)];exact sx.2.1
  ·rw [hv,if_neg fun e=>cn2.2.1.1 (bJ _ (by rw [←e];exact hi))]
 ·obtain⟨w,hw,e⟩:=fV y hy
  rw [e];exact sb' w hw
 ·obtain⟨w,hw,e⟩:=fV y hy
  rw [e];exact g.hs w (g.lu hh hw)
 ·obtain⟨w,hw,e⟩:=fV y hy
  have pk:T.pick h=T.nw:=by unfold TD.pick;rw [ho];dsimp only;rw [if_neg hm]
  rw [e]
  refine(g.sp o ho).2.1 w ?_
  rw [←pk]
  exact dY.2 ⟨_,bx (g.lX hh),hw⟩
 ·rw [hv,if_neg (fun e=>q.2.1 h e.symm),hd]
  have ea:=g.lX hh
  have e3:((T.pick h).cs.map lL)[T.pX h]?=some (lL (T.chain h)):=by rw [bD,ea];rfl
  have e2:((T.pick h).cs.map lL).set (T.pX h) (lL (T.chain h))=(T.pick h).cs.map lL:=by
   refine cG fun j=>?_
   rw [BQ e3]
   by_cases ej:j=T.pX h
   ·rw [if_pos ej,ej,e3]
   ·rw [if_neg ej]
  rw [e2]
  unfold TD.pick
  cases ho:T.od with
  |none=>exact g.wn
  |some o=>dsimp only;split;exact g.wo o ho;exact g.wn
 ·rw [hv,if_neg (fun e=>q.1 e.symm)];exact g.tn
 ·rw [hv,if_neg]
  exact fun e=>c (by rw [LQ,e];exact fJ (by simp))
theorem gD.aqG(g:gD nd T lo z n)(hv:∀i,gm[i]?=if i=T.t then some ⟨4,[T.nw.id,T.CU],[T.df,n',T.mv]⟩else nd[i]?):gD gm T lo z n':=by
 have k:∀i∈T.dN,i≠T.t→gm[i]?=nd[i]?:=fun i _ h=>by rw [hv,if_neg h]
 have d:=g.uo.1
 unfold TD.nV at d
 rw [cV]at d
 have n1:T.nw.id≠T.t:=fun e=>d.1 (by rw [←e];exact bQ ..)
 have o1:∀o,T.od=some o→o.id≠T.t:=fun o ho e=>d.1 (by rw [ho,←e];simp)
 refine⟨by rw [hv,if_pos rfl],by rw [k _ T.nU n1];exact g.wn,fun o ho=>by rw [k _ (TD.rG ho) (o1 o ho)];exact g.wo o ho,g.ln,g.F3,g.jn,g.jo,fun i c hc=>⟨(g.sn i c hc).1.eG fun y hy=>?_,(g.sn i c hc).2⟩,fun o ho i c hc=>⟨(g.so o ho i c hc).1.eG fun y hy=>?_,(g.so o ho i c hc).2⟩,g.sp,g.hs,g.CV,g.nz,g.mz⟩
 ·obtain⟨x,hx,e⟩:=iR.1 hy
  have hm:x∈T.dc:=bW _ (dY.2 ⟨c,bx hc,hx⟩)
  have:y∈iX T.dc:=by rcases e with rfl|rfl;exact fJ hm;exact iK hm
  exact k y (bK _ this) (g.Kn this).1
 ·obtain⟨x,hx,e⟩:=iR.1 hy
  have hm:x∈T.dc:=bK _ (by rw [TD.iu ho];exact dY.2 ⟨c,bx hc,hx⟩)
  have:y∈iX T.dc:=by rcases e with rfl|rfl;exact fJ hm;exact iK hm
  exact k y (bK _ this) (g.Kn this).1
theorem gD.go(g:gD nd T T.mv none n){m:Nat}(ho:T.od=some o)(hm:T.mv≤m)(hm2:m≤2 ^ o.j)
  (hv:∀i,gm[i]?=if i=T.t then some ⟨4,[T.nw.id,T.CU],[T.df,n,m]⟩else nd[i]?):gD gm {T with mv:=m} T.mv none n:=by
 have d:=g.uo.1
 unfold TD.nV at d
 rw [cV]at d
 have n1:T.nw.id≠T.t:=fun e=>d.1 (by rw [←e];exact bQ ..)
 have o1:∀o,T.od=some o→o.id≠T.t:=fun o ho e=>d.1 (by rw [ho,←e];simp)
 have ke:∀y∈iX T.dc,gm[y]?=nd[y]?:=fun y hy=>by rw [hv,if_neg (g.Kn hy).1]
 refine⟨by rw [hv,if_pos rfl];rfl,by show gm[T.nw.id]?=_;rw [hv,if_neg n1];exact g.wn,fun o ho=>by rw [hv,if_neg (o1 o ho)];exact g.wo o ho,g.ln,g.F3,g.jn,g.jo,fun i c hc=>⟨(g.sn i c hc).1.eG fun y hy=>ke y ?_,(g.sn i c hc).2⟩,fun o ho i c hc=>⟨(g.so o ho i c hc).1.eG fun y hy=>ke y ?_,(g.so o ho i c hc).2⟩,fun o' ij=>?_,g.hs,g.CV,g.nz,fun e=>by rw [ho]at e;cases e⟩
 ·obtain⟨x,hx,e⟩:=iR.1 hy
  have hm:x∈T.dc:=bW _ (dY.2 ⟨c,bx hc,hx⟩)
  rcases e with rfl|rfl;exact fJ hm;exact iK hm
 ·obtain⟨x,hx,e⟩:=iR.1 hy
  have hm:x∈T.dc:=bK _ (by rw [TD.iu (T:=T) ho];exact dY.2 ⟨c,bx hc,hx⟩)
  rcases e with rfl|rfl;exact fJ hm;exact iK hm
 ·have amH:T.od=some o':=ij
  rw [ho]at amH
  obtain rfl:=bt amH
  obtain⟨s1,s2,s3,s4⟩:=g.sp o ho
  exact⟨s1,fun x hx=>bZ (s2 x hx) hm,hm,hm2⟩
def TD.tE(T:TD)(o:rI)(i:Nat)(c:List iM):TD:={T with od:=some (o.fW i c)}
theorem gD.off(g:gD nd T lo z n)(ho:T.od=some o)(hc:o.cs[lo]?=some (x::c)) :
  gD nd (T.tE o lo c) lo (some (z.getD x.e)) n∧T.dc.Perm (x::(T.tE o lo c).dc)∧x.e∉(T.tE o lo c).dN∧x.k∉(T.tE o lo c).dN∧x.e≠x.k∧bk o.j x.hs=lo∧x.hs<18446744073709551616∧MS nd x (lL c)∧(∀i∈(T.tE o lo c).dN,i∈T.dN)∧x.e∈T.dN∧x.k∈T.dN:=by
 have fE:=(bp.1 hc).1
 have hx:x∈o.dc:=dY.2 ⟨_,bx hc,bQ ..⟩
 have hxT:x∈T.dc:=bK _ (by rw [TD.iu ho];exact hx)
 obtain⟨sg,sb⟩:=g.so o ho lo _ hc
 obtain⟨r,p1,p2⟩:=Bo hc
 have pe:T.dc.Perm (x::(T.tE o lo c).dc):=by
  have e1:T.dc=T.nw.dc++o.dc:=by unfold TD.dc;rw [TD.iu ho]
  have e2:(T.tE o lo c).dc=T.nw.dc++(o.fW lo c).dc:=rfl
  rw [e1,e2]
  have q1:o.dc.Perm (x::(o.fW lo c).dc):=p1.trans (List.Perm.cons x (p2 c).symm)
  exact(q1.append_left _).trans gT
 have d:=(iT pe).nodup_iff.1 g.uo.2.1
 rw [gS,cV,cV]at d
 have ea:(T.tE o lo c).nV=T.nV:=by unfold TD.nV TD.tE;rw [ho];rfl
 have nx:∀i,i=x.e∨i=x.k→i∉T.nV:=fun i hi hm=>g.uo.2.2 i hm (by rcases hi with rfl|rfl;exact fJ hxT;exact iK hxT)
 have akU:∀i∈iX (T.tE o lo c).dc,i∈iX T.dc:=fun i hi=>(iT pe).mem_iff.2 (by rw [gS];exact bJ _ (bJ _ hi))
 have akT:∀i∈(T.tE o lo c).dN,i∈T.dN:=fun i hi=>by
  unfold TD.dN at hi ⊢
  rw [ea]at hi
  rcases bI.1 hi with hi|hi
  ·exact bW _ hi
  ·exact bK _ (akU i hi)
 refine⟨⟨?_,g.wn,fun o' ij=>?_,g.ln,fun o' ij=>?_,g.jn,fun o' ij=>?_,g.sn,fun o' ij i c1 Dp=>?_,fun o' ij=>?_,fun y hy=>g.hs y (pe.mem_iff.2 (bJ _ hy)),?_,fun i hi=>g.nz i (akT i hi),nofun⟩,pe,?_,?_,?_,sb x (bQ ..),g.hs x hxT,sg.1,akT,TD.pq hxT,TD.EZ hxT⟩
 ·have:(T.tE o lo c).CU=T.CU:=by rw [TD.qV ho];rfl
  rw [this];exact g.tn
 ·obtain rfl:=bt (show some (o.fW lo c)=some o' from ij)
  have:=g.wo o ho
  show nd[o.id]?=some ⟨5,tN ((o.cs.set lo c).map lL) lo (some _),[]⟩
  rw [this,Ji]
  have e3:(o.cs.map lL)[lo]?=some x.e:=by rw [bD,hc];rfl
  congr 2
  unfold tN
  cases z with
  |none =>
   rw [Option.getD_none]
   dsimp only
   rw [pJ]
   refine cG fun j=>?_
   rw [BQ e3]
   by_cases ej:j=lo
   ·rw [if_pos ej,ej,e3]
   ·rw [if_neg ej]
  |some u=>dsimp only;rw [pJ];rfl
 ·obtain rfl:=bt (show some (o.fW lo c)=some o' from ij)
  show (o.cs.set lo c).length=2 ^ o.j
  rw [cd];exact g.F3 o ho
 ·obtain rfl:=bt (show some (o.fW lo c)=some o' from ij)
  exact g.jo o ho
 ·obtain rfl:=bt (show some (o.fW lo c)=some o' from ij)
  rcases xu Dp with⟨rfl,rfl⟩|⟨iS,xO⟩
  ·exact⟨sg.2,fun y hy=>sb y (bJ _ hy)⟩
  ·exact g.so o ho i c1 xO
 ·obtain rfl:=bt (show some (o.fW lo c)=some o' from ij)
  obtain⟨s1,s2,s3,s4⟩:=g.sp o ho
  refine⟨fun y hy=>?_,s2,s3,s4⟩
  have:y∈T.dc:=pe.mem_iff.2 (bJ _ (bK _ hy))
  refine s1 y ?_
  have ZI:y∈x::(o.fW lo c).dc:=bJ _ hy
  exact(p1.trans (List.Perm.cons x (p2 c).symm)).mem_iff.2 ZI
 ·unfold TD.dN
  rw [ea,cu]
  exact⟨g.uo.1,d.2.2,fun i hi j hj e=>g.uo.2.2 i hi (by rw [e];exact akU j hj)⟩
 ·unfold TD.dN
  rw [ea]
  intro hm
  rcases bI.1 hm with hm|hm
  ·exact nx _ (.inl rfl) hm
  ·exact d.1 (bJ _ hm)
 ·unfold TD.dN
  rw [ea]
  intro hm
  rcases bI.1 hm with hm|hm
  ·exact nx _ (.inr rfl) hm
  ·exact d.2.1 hm
 ·exact fun e=>d.1 (by rw [e];exact bQ ..)
theorem gD.zero(g:gD nd T lo z n)(ho:T.od=some o)(hc:o.cs[lo]?=some [])(fE:lo<T.mv)(hv:∀i,gm[i]?=if i=o.id then some ⟨5,(tN (o.cs.map lL) lo z).set lo 0,[]⟩else nd[i]?):gD gm T (lo+1) none n:=by
 have d:=g.uo.1
 unfold TD.nV at d
 rw [ho,cV,cV]at d
 have t1:T.t≠o.id:=fun e=>d.1 (by rw [e];simp)
 have ke:∀y∈iX T.dc,gm[y]?=nd[y]?:=fun y hy=>by rw [hv,if_neg ((g.Kn hy).2.2.2 o ho)]
 have e3:(o.cs.map lL)[lo]?=some 0:=by rw [bD,hc];rfl
 have e4:(o.cs.map lL).set lo 0=o.cs.map lL:=by
  refine cG fun j=>?_
  rw [BQ e3]
  by_cases ej:j=lo
  ·rw [if_pos ej,ej,e3]
  ·rw [if_neg ej]
 refine⟨by rw [hv,if_neg t1];exact g.tn,by rw [hv,if_neg (Ne.symm (g.o_n ho))];exact g.wn,fun o' ij=>?_,g.ln,g.F3,g.jn,g.jo,fun i c hc=>⟨(g.sn i c hc).1.eG fun y hy=>ke y ?_,(g.sn i c hc).2⟩,fun o ho i c hc=>⟨(g.so o ho i c hc).1.eG fun y hy=>ke y ?_,(g.so o ho i c hc).2⟩,fun o' ij=>?_,g.hs,g.CV,g.nz,g.mz⟩
 ·rw [ho]at ij
  obtain rfl:=bt ij
  rw [hv,if_pos rfl]
  congr 2
  unfold tN
  cases z with
  |none=>exact e4
  |some u=>dsimp only;rw [pJ];exact e4
 ·obtain⟨x,hx,e⟩:=iR.1 hy
  have hm:x∈T.dc:=bW _ (dY.2 ⟨c,bx hc,hx⟩)
  rcases e with rfl|rfl;exact fJ hm;exact iK hm
 ·obtain⟨x,hx,e⟩:=iR.1 hy
  have hm:x∈T.dc:=bK _ (by rw [TD.iu ho];exact dY.2 ⟨c,bx hc,hx⟩)
  rcases e with rfl|rfl;exact fJ hm;exact iK hm
 ·rw [ho]at ij
  obtain rfl:=bt ij
  obtain⟨s1,s2,s3,s4⟩:=g.sp o ho
  refine⟨fun y hy=>?_,s2,fE,s4⟩
  obtain⟨i,d,hd,hyd⟩:=iC hy
  have h1:=(g.so o ho i d hd).2 y hyd
  have h2:=s1 y hy
  by_cases e:i=lo
  ·rw [e,hc]at hd
   rw [←bt hd]at hyd
   cases hyd
  ·omega
theorem gD.nA(g:gD nd T lo none n)(ho:T.od=some o)(hlo:lo=2 ^ o.j)(hv:∀i,gm[i]?=if i=T.t then some ⟨4,[T.nw.id,0],[T.df,n,0]⟩else nd[i]?):
  gD gm {T with od:=none,mv:=0} 0 none n∧({T with od:=none,mv:=0}:TD).dc=T.dc∧(∀i∈({T with od:=none,mv:=0}:TD).dN,i∈T.dN):=by
 have em:o.dc=[]:=by
  rcases h:o.dc with _|⟨y,l⟩
  ·rfl
  ·have hy:y∈o.dc:=by rw [h];exact bQ ..
   have h1:=(g.sp o ho).1 y hy
   have hyT:y∈T.dc:=bK _ (by rw [TD.iu ho];exact hy)
   have h2:=Ih (j:=o.j) (h:=y.hs) (by have:=g.jo o ho;omega) (g.hs y hyT)
   omega
 have ee:({T with od:=none,mv:=0}:TD).dc=T.dc:=by
  show T.nw.dc++[]=_
  unfold TD.dc
  rw [TD.iu ho,em]
 have ea:∀i∈({T with od:=none,mv:=0}:TD).nV,i∈T.nV:=fun i hi=>by
  have hi:i∈[T.t,T.nw.id]:=hi
  unfold TD.nV
  simp only [ck,qD,or_false]at hi
  rcases hi with rfl|rfl<;>simp
 have d:=g.uo.1
 unfold TD.nV at d
 rw [ho,cV,cV]at d
 have n1:T.nw.id≠T.t:=fun e=>d.1 (by rw [←e];simp)
 have sub:∀i∈({T with od:=none,mv:=0}:TD).dN,i∈T.dN:=fun i hi=>by
  unfold TD.dN at hi ⊢
  rw [ee]at hi
  rcases bI.1 hi with hi|hi
  ·exact bW _ (ea i hi)
  ·exact bK _ hi
 refine⟨⟨by rw [hv,if_pos rfl];rfl,by show gm[T.nw.id]?=_;rw [hv,if_neg n1];exact g.wn,nofun,g.ln,nofun,g.jn,nofun,fun i c hc=>⟨(g.sn i c hc).1.eG fun y hy=>?_,(g.sn i c hc).2⟩,nofun,nofun,fun y hy=>g.hs y (ee▸hy),?_,fun i hi=>g.nz i (sub i hi),fun _=>rfl⟩,ee,sub⟩
 ·obtain⟨x,hx,e⟩:=iR.1 hy
  have hm:x∈T.dc:=bW _ (dY.2 ⟨c,bx hc,hx⟩)
  have:y∈iX T.dc:=by rcases e with rfl|rfl;exact fJ hm;exact iK hm
  rw [hv,if_neg (g.Kn this).1]
 ·unfold TD.dN
  rw [ee,cu]
  refine⟨?_,g.uo.2.1,fun i hi j hj e=>g.uo.2.2 i (ea i hi) (by rw [e];exact hj)⟩
  show [T.t,T.nw.id].Nodup
  simpa using Ne.symm n1
theorem gD.start(g:gD nd T T.mv none n)(ho:T.od=none){a j:Nat}(hj:j≤20)(ha:a∉T.dN)(a0:a≠0)
  (hv:∀i,i∈T.dN∨i=a→gm[i]?=if i=T.t then some ⟨4,[a,T.nw.id],[T.df,n,0]⟩else if i=a then some ⟨5,List.replicate (2 ^ j) 0,[]⟩else nd[i]?) :
  gD gm {T with nw:=⟨a,j,List.replicate (2 ^ j) []⟩,od:=some T.nw,mv:=0} 0 none n∧({T with nw:=⟨a,j,List.replicate (2 ^ j) []⟩,od:=some T.nw,mv:=0}:TD).dc=T.dc∧({T with nw:=⟨a,j,List.replicate (2 ^ j) []⟩,od:=some T.nw,mv:=0}:TD).dN.Perm (a::T.dN):=by
 have e0:(⟨a,j,List.replicate (2 ^ j) []⟩:rI).dc=[]:=by
  unfold rI.dc
  simp
 have ee:({T with nw:=⟨a,j,List.replicate (2 ^ j) []⟩,od:=some T.nw,mv:=0}:TD).dc=T.dc:=by
  unfold TD.dc TD.Bc
  rw [e0,ho,eU,eV]
 have ep:({T with nw:=⟨a,j,List.replicate (2 ^ j) []⟩,od:=some T.nw,mv:=0}:TD).dN.Perm (a::T.dN):=by
  unfold TD.dN
  rw [ee]
  have e1:({T with nw:=⟨a,j,List.replicate (2 ^ j) []⟩,od:=some T.nw,mv:=0}:TD).nV=[T.t,a,T.nw.id]:=rfl
  have e2:T.nV=[T.t,T.nw.id]:=by unfold TD.nV;rw [ho]
  rw [e1,e2]
  exact(List.Perm.swap a T.t [T.nw.id]).append_right _
 have iL:a≠T.t:=fun e=>ha (e▸T.jO)
 have d:=g.uo.1
 unfold TD.nV at d
 rw [ho,cV]at d
 have n1:T.nw.id≠T.t:=fun e=>d.1 (by rw [←e];simp)
 refine⟨⟨by rw [hv _ (.inl T.jO),if_pos rfl];rfl,?_,fun o' ij=>?_,by simp,fun o' ij=>?_,hj,fun o' ij=>?_,fun i c hc=>?_,fun o' ij i c hc=>?_,fun o' ij=>?_,fun y hy=>g.hs y (ee▸hy),?_,fun i hi=>?_,nofun⟩,ee,ep⟩
 ·show gm[a]?=_
  rw [hv _ (.inr rfl),if_neg iL,if_pos rfl]
  simp [WG]
 ·obtain rfl:=bt (show some T.nw=some o' from ij)
  rw [hv _ (.inl T.nU),if_neg n1,if_neg fun e=>ha (by rw [←e];exact T.nU)];exact g.wn
 ·obtain rfl:=bt (show some T.nw=some o' from ij)
  exact g.ln
 ·obtain rfl:=bt (show some T.nw=some o' from ij)
  exact g.jn
 ·have:c=[]:=by
   have:=bx hc
   exact(gE.1 this).2
  subst this
  exact⟨trivial,nofun⟩
 ·obtain rfl:=bt (show some T.nw=some o' from ij)
  refine⟨(g.sn i c hc).1.eG fun y hy=>?_,(g.sn i c hc).2⟩
  obtain⟨x,hx,e⟩:=iR.1 hy
  have hm:x∈T.dc:=bW _ (dY.2 ⟨c,bx hc,hx⟩)
  have h1:y∈iX T.dc:=by rcases e with rfl|rfl;exact fJ hm;exact iK hm
  have h2:y∈T.dN:=bK _ h1
  rw [hv _ (.inl h2),if_neg (g.Kn h1).1,if_neg fun e=>ha (by rw [←e];exact h2)]
 ·obtain rfl:=bt (show some T.nw=some o' from ij)
  exact⟨fun _ _=>cP _,fun y hy=>(by rw [e0]at hy;cases hy),bH _,cP _⟩
 ·rw [ep.nodup_iff,cV];exact⟨ha,g.CV⟩
 ·rcases ck.1 (ep.mem_iff.1 hi)with rfl|hi
  ·exact a0
  ·exact g.nz i hi
end
theorem DX {a b:Nat}(ha:a<18446744073709551616)(hb:b<18446744073709551616):yX .u64 (a:Int) (b:Int)=((a ^^^ b:Nat):Int):=by
 show wrap .u64 (((BitVec.ofInt 64 (a:Int) ^^^ BitVec.ofInt 64 (b:Int):BitVec 64).toNat:Nat):Int)=_
 rw [oq,oq,BitVec.toNat_xor,BitVec.toNat_ofNat,BitVec.toNat_ofNat,fS ha,fS hb]
 have:a ^^^ b<2 ^ 64:=Nat.xor_lt_two_pow (by simpa using ha) (by simpa using hb)
 exact eN (by omega) (by omega)
theorem DV {a b:Nat}(ha:a<18446744073709551616)(hb:b<18446744073709551616):a ^^^ b<18446744073709551616:=by
 have:a ^^^ b<2 ^ 64:=Nat.xor_lt_two_pow (by simpa using ha) (by simpa using hb)
 simpa using this
theorem Kr(n:Nat):wrap .u64 (n:Int)=((n%18446744073709551616:Nat):Int):=by rw [tL];omega
theorem Kq(a b:Nat):wrap .u64 ((a:Int)*(b:Int))=((a*b%18446744073709551616:Nat):Int):=by
 rw [←Kr];congr 1
theorem AM(a b:Nat):wrap .u64 ((a:Int)+(b:Int))=(((a+b)%18446744073709551616:Nat):Int):=by
 rw [←Kr];congr 1
def shr(x k:Nat):Nat:=x / 2 ^ k
theorem II {x k:Nat}(h:x<18446744073709551616):shr x k<18446744073709551616:=Nat.lt_of_le_of_lt (Nat.div_le_self _ _) h
theorem WZ(x k:Nat):Int.fdiv (x:Int) (2 ^ k)=(shr x k:Int):=ri x k
def mc1:Nat:=0xd6a5c39b71e4f28d
def mc2:Nat:=0xb34f6e1d9c2a7585
def Dl(x:Nat):Nat:=(x ^^^ shr x 32)*mc1%18446744073709551616
def K5(x:Nat):Nat:=(x ^^^ shr x 29)*mc2%18446744073709551616
def SU(x:Nat):Nat:=K5 (Dl x) ^^^ shr (K5 (Dl x)) 32
theorem DD(x:Nat):Dl x<18446744073709551616:=jB _ (by omega)
theorem DC(x:Nat):K5 x<18446744073709551616:=jB _ (by omega)
theorem QV(x:Nat):SU x<18446744073709551616:=DV (DC _) (II (DC _))
def wf(b:LN)(o:Nat):Nat→Nat
 | 0=>0
 |j+1=>wf b o j+b.getD (o+j) 0*256 ^ j
def jG(b:LN)(o:Nat):Nat:=wf b o 8
theorem DK {b:LN}(h:∀c∈b,c<256)(i:Nat):b.getD i 0<256:=by
 rw [bB]
 cases e:b[i]? with
 |none=>exact(by omega:(0:Nat)<256)
 |some x=>exact h x (bx e)
theorem Uu {b:LN}(h:∀c∈b,c<256)(o:Nat):∀j,wf b o j<256 ^ j
 | 0=>by unfold wf;omega
 |j+1=>by
  have h1:=Uu h o j
  have h2:=DK h (o+j)
  unfold wf
  rw [mr]
  have h3:b.getD (o+j) 0*256 ^ j≤255*256 ^ j:=gA _ (by omega)
  omega
theorem BX:(256:Nat) ^ 8=18446744073709551616:=by decide
theorem uF {b:LN}(h:∀c∈b,c<256)(o:Nat):jG b o<18446744073709551616:=by rw [←BX];exact Uu h o 8
def wn(n:Nat):Nat:=(n+7) / 8
def xQ(h0:Nat)(b:LN):Nat→Nat
 | 0=>h0
 |m+1=>SU (xQ h0 b m ^^^ jG b (8*m))
def Ra(df n:Nat):Nat:=SU ((df+n)%18446744073709551616)
def fU(df:Nat)(b:LN):Nat:=xQ (Ra df b.length) b (wn b.length)
theorem xP(h0:Nat)(b:LN)(m:Nat):xQ h0 b (m+1)=SU (xQ h0 b m ^^^ jG b (8*m)):=by rw [xQ]
theorem vk {h0:Nat}(h:h0<18446744073709551616)(b:LN):∀m,xQ h0 b m<18446744073709551616
 | 0=>h
 |m+1=>by rw [xP];exact QV _
theorem xR(df n:Nat):Ra df n<18446744073709551616:=QV _
theorem Bi(df:Nat)(b:LN):fU df b<18446744073709551616:=vk (xR _ _) _ _
def wL(b:LN):LN:=(List.range (wn b.length)).map fun k=>jG b (8*k)
theorem B0 {b:LN}{k:Nat}(h:k<wn b.length):(wL b)[k]?=some (jG b (8*k)):=by unfold wL;rw [bD,fL h];rfl
def uZ(b:LN)(m:Nat):LN:=(List.range (wn b.length)).map fun k=>jG (b.take m) (8*k)
theorem S2(b:LN):uZ b b.length=wL b:=by unfold uZ wL;rw [dE]
theorem Og(b:LN):uZ b 0=List.replicate (wn b.length) 0:=by
 unfold uZ
 rw [tt]
 refine cG fun k=>?_
 rw [bD,jU]
 by_cases h:k<wn b.length
 ·rw [fL h,if_pos h];simp [jG,wf]
 ·rw [bV (by simpa using h),if_neg h];rfl
theorem BO {b:LN}{m i:Nat}:(b.take m).getD i 0=if i<m then b.getD i 0 else 0:=by
 rw [bB,gF,bB]
 split<;>rfl
theorem Qb {b:LN}{m o:Nat}:∀j,wf (b.take (m+1)) o j=wf (b.take m) o j+(if o≤m∧m<o+j then b.getD m 0*256 ^ (m-o)else 0)
 | 0=>by rw [if_neg (by omega)];rfl
 |j+1=>by
  unfold wf
  rw [Qb j,BO,BO]
  by_cases h1:o≤m∧m<o+j
  ·rw [if_pos h1,if_pos (show o≤m∧m<o+(j+1)by omega)]
   rw [if_neg (by omega),if_neg (by omega)];omega
  ·rw [if_neg h1]
   by_cases h2:m=o+j
   ·rw [if_pos (show o≤m∧m<o+(j+1)by omega),if_pos (by omega),if_neg (by omega),h2,show o+j-o=j by omega]
    omega
   ·rw [if_neg (show ¬(o≤m∧m<o+(j+1))by omega)]
    by_cases h3:o+j<m
    ·rw [if_pos (by omega),if_pos h3];omega
    ·rw [if_neg (by omega),if_neg h3];omega
theorem CD {b:LN}{m k:Nat}(hm:m<b.length):jG (b.take (m+1)) (8*k)=if k=m / 8 then jG (b.take m) (8*k)+b.getD m 0*256 ^ (m%8)else jG (b.take m) (8*k):=by
 unfold jG
 rw [Qb]
 by_cases h:k=m / 8
 ·rw [if_pos h,if_pos (by omega),show m-8*k=m%8 by omega]
 ·rw [if_neg h,if_neg (by omega),iF]
theorem Uv {b:LN}(h:∀c∈b,c<256){m o:Nat}(ho:o≤m):∀j,wf (b.take m) o j<256 ^ (m-o)
 | 0=>by unfold wf;exact uj (by omega)
 |j+1=>by
  by_cases hj:o+j<m
  ·have:=Uu (b:=b.take m) (fun c hc=>h c (dK hc)) o (j+1)
   exact bZ this (fQ (by omega) (by omega))
  ·unfold wf
   rw [BO,if_neg hj,pG,iF]
   exact Uv h ho j
theorem Ny {b:LN}(h:∀c∈b,c<256){m:Nat}:jG (b.take m) (8*(m / 8))<256 ^ (m%8):=by
 have:=Uv h (m:=m) (o:=8*(m / 8)) (by omega) 8
 rwa [show m-8*(m / 8)=m%8 by omega]at this
theorem agY {a c k:Nat}(ha:a<2 ^ k):a |||c*2 ^ k=a+c*2 ^ k:=by
 have:=kG ha c
 rw [Nat.or_comm,jF c,←this,sC]
theorem QK(r:Nat):(256:Nat) ^ r=2 ^ (8*r):=by rw [Nat.pow_mul]
theorem aa4 {b:LN}(h:∀c∈b,c<256){m:Nat}(hm:m<b.length):(jG (b.take m) (8*(m / 8))) |||b.getD m 0*2 ^ (8*(m%8))=jG (b.take (m+1)) (8*(m / 8)):=by
 rw [CD hm,if_pos rfl,QK,agY]
 rw [←QK];exact Ny h
theorem Oh {b:LN}{m:Nat}(hm:m<b.length):uZ b (m+1)=(uZ b m).set (m / 8) (jG (b.take (m+1)) (8*(m / 8))):=by
 have hw:m / 8<wn b.length:=by unfold wn;omega
 refine cG fun k=>?_
 rw [eW]
 unfold uZ
 simp only [bA,ul]
 rw [bD,bD]
 by_cases hk:k<wn b.length
 ·rw [fL hk]
  by_cases e:m / 8=k
  ·rw [if_pos e,if_pos (by omega),←e];simp only [dR]
  ·rw [if_neg e]
   simp only [dR]
   rw [CD hm,if_neg (Ne.symm e)]
 ·rw [bV (by simpa using hk),if_neg (by omega)];simp only [Option.map_none]
def rF (l:List (Option Nat)):Nat:=(l.filter Option.isSome).length
theorem Fm:∀l:List (Option Nat),RS.dV l≤rF l
 | []=>bH _
 |none::l=>cP _
 |some x::l=>by
  have:=Fm l
  show RS.dV l+1≤(List.filter Option.isSome (some x::l)).length
  rw [fI rfl,dF]
  exact Nat.succ_le_succ this
theorem JW (l:List (Option Nat)):rF l≤l.length:=dT _ _
theorem a6:∀ {l m:List (Option Nat)},wQ l m→rF l=rF m
 | [],[],_=>rfl
 | [],b::m,h=>by
  have h0:=h 0
  have hm:wQ [] m:=fun j=>by have:=h (j+1);simpa using this
  obtain rfl:b=none:=by simpa using h0.symm
  show 0=(List.filter Option.isSome (none::m)).length
  rw [gu (by simp)]
  exact a6 hm
 |a::l,[],h=>by
  have h0:=h 0
  have hm:wQ l []:=fun j=>by have:=h (j+1);simpa using this
  obtain rfl:a=none:=by simpa using h0
  show (List.filter Option.isSome (none::l)).length=0
  rw [gu (by simp)]
  exact a6 hm
 |a::l,b::m,h=>by
  have h0:a=b:=by have:=h 0;simpa using this
  have hm:wQ l m:=fun j=>by have:=h (j+1);simpa using this
  subst h0
  have:=a6 hm
  unfold rF at *
  cases a with
  |none=>rw [gu (by simp),gu (by simp)];exact this
  |some x=>rw [fI rfl,fI rfl,dF,dF,this]
theorem Zc (l:List (Option Nat)) (x:Nat):rF (l++[some x])=rF l+1:=by unfold rF;rw [gG];simp
theorem MZ:∀(l:List (Option Nat)) (i:Nat) (x:Option Nat),i<l.length→rF (l.set i x)+(if(l.getD i none).isSome then 1 else 0)=rF l+(if x.isSome then 1 else 0)
 | [],_,_,h=>by simp at h
 |a::l,0,x,_=>by
  rw [jD]
  unfold rF
  cases a<;>cases x<;>simp
 |a::l,i+1,x,h=>by
  have ih:=MZ l i x (by simpa using h)
  rw [fg,rW]
  unfold rF at *
  cases a with
  |none=>rw [gu (by simp),gu (by simp)];exact ih
  |some y=>rw [fI rfl,fI rfl,dF,dF];omega
theorem TB (l:List (Option Nat)) (x:Nat):rF (ix l x)=rF l+1:=by
 unfold ix
 split
 ·rename_i h
  have:=MZ l (RS.dV l) (some x) h
  rw [nO]at this
  simpa using this
 ·exact Zc l x
theorem BS (l:List (Option Nat)) (x:Nat):(ix l x).length≤max l.length (rF l+1):=by
 have h1:=NW l x
 have h2:=Fm l
 omega
theorem vD.mem {nd:List di}{l m:List (Option Nat)} (h:∀x,x≠0→some x∈l→vD nd m x) {x:Nat} (r:vD nd l x):vD nd m x:=by
 induction r with
 |root a b=>exact h _ b a
 |next _ a b c ih=>exact .next ih a b c
theorem Lv.mem {nd:List di}{l m:List (Option Nat)} {dN:LN} (h1:∀x,x≠0→some x∈l→vD nd m x) (h2:∀x,x≠0→some x∈m→vD nd l x) (v:Lv nd l dN):Lv nd m dN :=
 ⟨v.CV,fun x=>(v.S4 x).trans ⟨vD.mem h1,vD.mem h2⟩⟩
theorem Lv.root(nd:List di)(l:List (Option Nat)) (x:Nat) {dN:LN}:Lv nd (ix l x) dN↔Lv nd (some x::l) dN:=by
 have e:∀y,some y∈ix l x↔some y∈some x::l:=fun y=>by rw [oP];simp
 exact⟨Lv.mem (fun y h0 h=>.root ((e y).1 h) h0) fun y h0 h=>.root ((e y).2 h) h0,Lv.mem (fun y h0 h=>.root ((e y).2 h) h0) fun y h0 h=>.root ((e y).1 h) h0⟩
def Rm(iN:Nat)(nd:List di)(bC:List (Option Nat)) (z:Nat):Prop:=∀dN,Lv nd bC dN→iP iN (1+RS.mS nd dN) (RS.mT nd dN) z
def NRm(iN:Nat)(nd:List di)(bC:List (Option Nat)) (z:Nat):Prop:=∀dN,Lv nd bC dN→¬iP iN (1+RS.mS nd dN) (RS.mT nd dN) z
structure oH (T:TD):Prop where
 sd:T.df<18446744073709551616
 hk:∀x∈T.dc,x.hs=fU T.df x.key
 ku:(T.dc.map (·.key)).Nodup
section
variable {T T':TD} {x y:iM} {r:List iM}
theorem oH.lS(k:oH T)(hs:T'.df=T.df)(p:T'.dc.Perm T.dc):oH T' :=
 ⟨hs▸k.sd,fun x hx=>hs▸k.hk x (p.mem_iff.1 hx),(p.map _).nodup_iff.2 k.ku⟩
theorem oH.cut(k:oH T)(hs:T'.df=T.df)(p:T.dc.Perm (x::r)) (p':T'.dc.Perm r):oH T':=by
 have h:=(p.map (·.key)).nodup_iff.1 k.ku
 rw [cU,cV]at h
 exact⟨hs▸k.sd,fun y hy=>hs▸k.hk y (p.mem_iff.2 (bJ _ (p'.mem_iff.1 hy))),(p'.map _).nodup_iff.2 h.2⟩
theorem oH.put(k:oH T)(hs:T'.df=T.df)(p:T'.dc.Perm (x::T.dc)) (hx:x.hs=fU T.df x.key) (hn:∀y∈T.dc,y.key≠x.key):oH T':=by
 refine⟨hs▸k.sd,fun y hy=>?_,(p.map _).nodup_iff.2 ?_⟩
 ·rw [hs]
  rcases ck.1 (p.mem_iff.1 hy)with rfl|hy
  ·exact hx
  ·exact k.hk y hy
 ·rw [cU,cV]
  refine⟨fun h=>?_,k.ku⟩
  obtain⟨y,hy,e⟩:=cy.1 h
  exact hn y hy e
theorem oH.aqu(k:oH T)(hs:T'.df=T.df)(p:T.dc.Perm (x::r)) (p':T'.dc.Perm (y::r)) (e1:y.key=x.key) (e2:y.hs=x.hs):oH T':=by
 have h:=(p.map (·.key)).nodup_iff.1 k.ku
 refine⟨hs▸k.sd,fun w hw=>?_,(p'.map _).nodup_iff.2 ?_⟩
 ·rw [hs]
  rcases ck.1 (p'.mem_iff.1 hw)with rfl|hw
  ·rw [e1,e2];exact k.hk x (p.mem_iff.2 (bQ ..))
  ·exact k.hk w (p.mem_iff.2 (bJ _ hw))
 ·rw [cU,e1]
  rw [cU]at h;exact h
theorem oH.aqq(k:oH T)(hx:x∈T.dc)(hy:y∈T.dc)(e:x.key=y.key):x=y:=by
 obtain⟨i,hi⟩:=bT.1 hx
 obtain⟨j,hj⟩:=bT.1 hy
 have h1:(T.dc.map (·.key))[i]?=some x.key:=by rw [bD,hi];rfl
 have h2:(T.dc.map (·.key))[j]?=some x.key:=by rw [bD,hj,e];rfl
 have hl:i<(T.dc.map (·.key)).length:=(bp.1 h1).1
 obtain rfl:i=j:=(jV hl k.ku).1 (h1.trans h2.symm)
 rw [hi]at hj;exact bt hj
end
def TD.sE(T:TD):Nat × Nat × Nat:=(2 ^ T.nw.j,(match T.od with|some o=>2 ^ o.j|none=>0),T.mv)
def tM(x:Nat × Nat × Nat):Nat × Nat × Nat:=if x.2.1=0 then x else if x.2.1≤x.2.2+16 then(x.1,0,0)else(x.1,x.2.1,x.2.2+16)
theorem two_pos(j:Nat):0<2 ^ j:=uj (by omega)
theorem uM {T:TD}(h:T.od=none):T.sE=(2 ^ T.nw.j,0,T.mv):=by unfold TD.sE;rw [h]
theorem sL {T:TD}{o:rI}(h:T.od=some o):T.sE=(2 ^ T.nw.j,2 ^ o.j,T.mv):=by unfold TD.sE;rw [h]
theorem IJ {T:TD}:T.sE.2.1=0↔T.od=none:=by
 cases h:T.od with
 |none=>rw [uM h];simp
 |some o=>rw [sL h];have:=two_pos o.j;simp
structure qB (nd:List di) (T:TD) (gm:List di) (T':TD):Prop where
 c:yT gm T'
 t:T'.t=T.t
 df:T'.df=T.df
 len:nd.length≤gm.length
 fr:∀x,x<nd.length→x∉T.dN→gm[x]?=nd[x]?
 own:∀x∈T'.dN,x∈T.dN∨nd.length≤x
theorem qB.refl {nd:List di}{T:TD}(c:yT nd T):qB nd T nd T:=⟨c,rfl,rfl,bH _,fun _ _ _=>rfl,fun _=>.inl⟩
theorem qB.trans {nd gm lT:List di}{T T' T2:TD}(a:qB nd T gm T')(b:qB gm T' lT T2):qB nd T lT T2 :=
 ⟨b.c,b.t.trans a.t,b.df.trans a.df,bP a.len b.len,fun x hx hn=>(b.fr x (bZ hx a.len) fun h=>(a.own x h).elim hn fun h=>by omega).trans (a.fr x hx hn),
  fun x hx=>(b.own x hx).elim (a.own x) fun h=>.inr (bP a.len h)⟩
open Go.Proofs
def IY(m:Nat):LN:=if m=3 then [0,1,6,13,14,15]else if m=12 then [0,9,10,28,29,30]else []
def W2(J1:Nat→OA→Sl→Int→Sl→Int→Int→Hp→Prop)(n1:Nat)(j:OA)(d:Sl)(b:Int)(i:Sl)(k e:Int)(g:Nat→Value)(h:Hp)(R:RP):Prop:=bX (decide (e<k)) ((0≤e∧e<(i.n:Int))∧bE i.a fun l=>∃f:Sl,cell h (l.add (e.toNat*1))=some (.slice f.a f.n f.c)∧bX (decide ((wrap .i64 (b+(f.n:Int)))>(4096:Int))) (R (vt #[vu 0,vi 41]:Value) h) (∃m,m<n1∧J1 m j d (wrap .i64 (b+(f.n:Int))) i k (wrap .i64 (e+(1:Int))) h)) ((0≤b∧b≤b)∧b<2 ^ 62∧(1:Nat)*b≤2 ^ 48∧gi (h.push (.cells (ja #[.int .u8 0] (b.toNat*1)) 5)) fun o=>dO (kJ PG fN IY (sub [1,1,1,1,1,0,1,0,0] (bd Tryz.f95))) (dW PG fN IY [1,1,1,1,1,0,1,0] (bd Tryz.f95) [] (eJ PG Tryz.f95 [] R)) [(0,vp j),(9,.slice (some (nb h)) b.toNat b.toNat),(10,vi 0),(28,.slice d.a d.n d.c),(29,vi (d.n:Int)),(30,vi 0)] 47 o)
abbrev anG(R:RP)(a s1a:OA)(Y7 Y9:Nat)(b:Int)(aq6:OA)(aq4 aq5:Nat)(c d:Int)(e:Hp):Prop:=dO (kJ PG fN IY (sub [1,1,0,1,0,0] (bd Tryz.f95))) (dW PG fN IY [1,1,0,1,0] (bd Tryz.f95) [] (eJ PG Tryz.f95 [] R)) [(0,vp a),(1,.slice s1a Y7 Y9),(6,vi b),(13,.slice aq6 aq4 aq5),(14,vi c),(15,vi d)] 47 e
theorem ON {R:RP}{s0:OA}{s1:Sl}{s6:Int}{Sx:Sl}{uP qS:Int}{h0:Hp}(J:Nat→OA→Sl→Int→Sl→Int→Int→Hp→Prop)(n0:Nat)(hi:J n0 s0 s1 s6 Sx uP qS h0)(hr:∀n s0 s1 s6 Sx uP qS g h,J n s0 s1 s6 Sx uP qS h→W2  J n s0 s1 s6 Sx uP qS g h R):anG R s0 s1.a s1.n s1.c s6 Sx.a Sx.n Sx.c uP qS h0:=iz (l:=[(0,.p),(1,.l),(6,.i .i64),(13,.l),(14,.i .i64),(15,.i .i64)]) (J:=J) (n0:=n0) (s0,s1,s6,Sx,uP,qS,()) hi (fun n s0 s1 s6 Sx uP qS g h=>W2  J n s0 s1 s6 Sx uP qS g h R) hr
def W1(J2:Nat→OA→Sl→Int→Sl→Int→Int→Hp→Prop)(n2:Nat)(j:OA)(b:Sl)(d:Int)(i:Sl)(k e:Int)(g:Nat→Value)(h:Hp)(R:RP):Prop:=bX (decide (e<k)) ((0≤e∧e<(i.n:Int))∧bE i.a fun p=>∃f:Sl,cell h (p.add (e.toNat*1))=some (.slice f.a f.n f.c)∧(0≤d∧d≤(b.n:Int))∧RU 1 (if b.c=d.toNat then b.a else Option.map (fun x=>x.add (d.toNat*1)) b.a) (b.n-d.toNat) f.a f.n h fun rk q=>∃m,m<n2∧J2 m j b (wrap .i64 (d+rk)) i k (wrap .i64 (e+(1:Int))) q) (bq PG 139 #[vp j,.slice b.a b.n b.c] h fun r s=>∃l:Int,∃o:Int,r=vt #[vu l,vi o]∧R (vt #[vu l,vi o]:Value) s)
abbrev anF(R:RP)(a s9a:OA)(s9n s9c:Nat)(b:Int)(aqU:OA)(aqS aqT:Nat)(c d:Int)(e:Hp):Prop:=dO (kJ PG fN IY (sub [1,1,1,1,1,0,1,0,0] (bd Tryz.f95))) (dW PG fN IY [1,1,1,1,1,0,1,0] (bd Tryz.f95) [] (eJ PG Tryz.f95 [] R)) [(0,vp a),(9,.slice s9a s9n s9c),(10,vi b),(28,.slice aqU aqS aqT),(29,vi c),(30,vi d)] 47 e
theorem OM {R:RP}{s0:OA}{s9:Sl}{oh:Int}{Dh:Sl}{xy Eu:Int}{h0:Hp}(J:Nat→OA→Sl→Int→Sl→Int→Int→Hp→Prop)(n0:Nat)(hi:J n0 s0 s9 oh Dh xy Eu h0)(hr:∀n s0 s9 oh Dh xy Eu g h,J n s0 s9 oh Dh xy Eu h→W1  J n s0 s9 oh Dh xy Eu g h R):anF R s0 s9.a s9.n s9.c oh Dh.a Dh.n Dh.c xy Eu h0:=iz (l:=[(0,.p),(9,.l),(10,.i .i64),(28,.l),(29,.i .i64),(30,.i .i64)]) (J:=J) (n0:=n0) (s0,s9,oh,Dh,xy,Eu,()) hi (fun n s0 s9 oh Dh xy Eu g h=>W1  J n s0 s9 oh Dh xy Eu g h R) hr
def anE(d:OA)(b:Sl)(h:Hp)(R:RP):Prop:=dO (kJ PG fN IY (sub [1,1,0,1,0,0] (bd Tryz.f95))) (dW PG fN IY [1,1,0,1,0] (bd Tryz.f95) [] (eJ PG Tryz.f95 [] R)) [(0,vp d),(1,.slice b.a b.n b.c),(6,vi 0),(13,.slice b.a b.n b.c),(14,vi (b.n:Int)),(15,vi 0)] 47 h
theorem abH {a0:OA}{a1:Sl}{h:Hp}{R:RP}(hF:anE a0 a1 h R):bq PG 95 #[vp a0,vl a1] h R:=iY (lv:=IY) Tryz.func95 hF
def afq(i:OA)(j:Int)(d:Sl)(h:Hp)(R:RP):Prop:=bq PG 156 #[vp i,vu j] h fun r f=>∃b:Sl,∃e:Int,r=vt #[.slice b.a b.n b.c,vi e]∧bX (e != (0:Int)) (R (vt #[vi 0,vi e]:Value) f) (bq PG 65 #[.slice b.a b.n b.c,.slice d.a d.n d.c] f fun r k=>∃g:Int,r=vi g∧R (vt #[vi g,vi 0]:Value) k)
theorem Yy {a0:OA}{a1:Int}{a2:Sl}{h:Hp}{R:RP}(hF:afq a0 a1 a2 h R):bq PG 115 #[vp a0,vu a1,vl a2] h R:=iY (lv:=kw) Tryz.func115 hF
def afg(e:OA)(b:Sl)(h:Hp)(R:RP):Prop:=bq PG 161 #[vi (b.n:Int)] h fun r j=>∃g:Int,r=vi g∧bq PG 96 #[vp e,vi 1,vi 0,vi (wrap .i64 ((1:Int)+g))] j fun r i=>∃d:Int,∃f:Int,r=vt #[vu d,vi f]∧bX (f != (0:Int)) (R (vt #[vu 0,vi f]:Value) i) (bq PG 92 #[vp e,vu d,vi 0,vu (wrap .u64 (b.n:Int))] i fun r k=>∃l:Int,r=vi l∧bq PG 184 #[vp e,vu d,vi 8,.slice b.a b.n b.c] k fun r m=>∃o:Int,r=vi o∧R (vt #[vu d,vi 0]:Value) m)
theorem Yn {a0:OA}{a1:Sl}{h:Hp}{R:RP}(hF:afg a0 a1 h R):bq PG 139 #[vp a0,vl a1] h R:=iY (lv:=kw) Tryz.func139 hF
def ae0(e:OA)(f:Int)(h:Hp)(R:RP):Prop:=bq PG 196 #[vp e,vu f] h fun r g=>∃i:Int,∃d:Int,r=vt #[vi i,vi d]∧bX (d != (0:Int)) (R (vt #[.slice none 0 0,vi d]:Value) g) (bq PG 197 #[vp e,vu f,vi 0,vi i] g fun r k=>∃b:Sl,∃j:Int,r=vt #[.slice b.a b.n b.c,vi j]∧R (vt #[.slice b.a b.n b.c,vi j]:Value) k)
theorem X2 {a0:OA}{a1:Int}{h:Hp}{R:RP}(hF:ae0 a0 a1 h R):bq PG 156 #[vp a0,vu a1] h R:=iY (lv:=kw) Tryz.func156 hF
def Ju  (b:OA) (c:Int) (d:Bool) (h:Hp) (R:RP):Prop:=bX d (R (vt #[vi 0,vi 40]:Value) h) (bq PG 72 #[vp b,vu c,vi 0] h fun r e=>∃a:Int,∃f:Int,r=vt #[vu a,vi f]∧R ((vt #[vi (wrap .i64 a),vi 0]:Value)) e)
def aeI(a:OA)(b:Int)(h:Hp)(R:RP):Prop:=bq PG 89 #[vp a,vu b] h fun r c=>∃d:Int,∃f:Int,∃g:Int,∃e:Int,r=vt #[vi d,vi f,vi g,vi e]∧bX (e != (0:Int)) (Ju  a b true c R) (Ju  a b (d != (1:Int)) c R)
theorem XI {a0:OA}{a1:Int}{h:Hp}{R:RP}(hF:aeI a0 a1 h R):bq PG 196 #[vp a0,vu a1] h R:=iY (lv:=kw) Tryz.func196 hF
def Ao  (d:OA) (e f g:Int) (i:Bool) (h:Hp) (R:RP):Prop:=bX i (R (vt #[.slice none 0 0,vi 42]:Value) h) (bq PG 223 #[vp d,vu e,vi (wrap .i64 ((8:Int)+f)),vi g] h fun r j=>∃b:Sl,∃k:Int,r=vt #[.slice b.a b.n b.c,vi k]∧R (vt #[.slice b.a b.n b.c,vi 0]:Value) j)
def aeH(c:OA)(d a b:Int)(h:Hp)(R:RP):Prop:=bq PG 196 #[vp c,vu d] h fun r e=>∃f:Int,∃g:Int,r=vt #[vi f,vi g]∧bX (g != (0:Int)) (R (vt #[.slice none 0 0,vi g]:Value) e) (bX (decide (a<(0:Int))) (Ao  c d a b true e R) (bX (decide (b<(0:Int))) (Ao  c d a b true e R) (bX (decide (a>f)) (Ao  c d a b true e R) (Ao  c d a b (decide (b>(wrap .i64 (f-a)))) e R))))
theorem XH {a0:OA}{a1 a2 a3:Int}{h:Hp}{R:RP}(hF:aeH a0 a1 a2 a3 h R):bq PG 197 #[vp a0,vu a1,vi a2,vi a3] h R:=iY (lv:=kw) Tryz.func197 hF
section
end
section
end
section
variable {h h':Hp}
theorem gN {α:Type}{f:α→LV}{sz:Nat}(hf:∀x,(f x).length=sz):∀l:List α,(l.flatMap f).length=l.length*sz
 | []=>by simp
 |x::l=>by rw [cJ,bG,hf,gN hf l,dF,hY];omega
theorem ml {α:Type}{f:α→LV}{sz:Nat}(hf:∀x,(f x).length=sz):∀(l:List α) (i j:Nat) (x:α),l[i]?=some x→j<sz→(l.flatMap f)[i*sz+j]?=(f x)[j]?
 | [],_,_,_,h,_=>by simp at h
 |y::l,0,j,x,h,hj=>by
  obtain rfl:y=x:=by simpa using h
  rw [cJ,pG,fo,bL (by rw [hf];exact hj)]
 |y::l,i+1,j,x,h,hj=>by
  rw [cJ,bN (by rw [hf,hY];omega),hf]
  have e:(i+1)*sz+j-sz=i*sz+j:=by rw [hY];omega
  rw [e]
  exact ml hf l i j x (by simpa using h) hj
theorem N1 {h h':Hp}{S:Nat→Prop}(k:bY S h h'){a:OA}{vs:LV}(r:dZ h a vs)(hS:∀p,a=some p→p.block<h.size∧¬S p.block):dZ h' a vs:=by
 cases a with
 |none=>exact r
 |some p =>
  obtain⟨h1,h2⟩:=hS p rfl
  have e:=k.2 _ h1 h2
  intro j v hv
  have:=r j v hv
  unfold cell at this ⊢
  have eb:(p.add j).block=p.block:=by unfold Addr.add;split<;>rfl
  rw [eb]at this ⊢
  rw [e]
  exact this
theorem tU {h h':Hp}{S:Nat→Prop}(k:bY S h h'){a:OA}{vs:LV}(r:dZ h a vs)(hS:∀p,a=some p→vs≠[]→p.block<h.size∧¬S p.block):dZ h' a vs:=by
 by_cases hv:vs=[]
 ·subst hv
  cases a with
  |none=>rfl
  |some p=>intro j v hv;simp at hv
 ·exact N1 k r fun p hp=>hS p hp hv
theorem fC {h h':Hp}(k:bY (fun _=>False) h h') {a:OA} {vs:LV} (r:dZ h a vs):dZ h' a vs:=by
 refine tU k r fun p hp hv=>⟨?_,id⟩
 subst hp
 cases vs with
 |nil=>exact absurd rfl hv
 |cons v vs =>
  have h0:cell h (p.add 0)=some v:=r 0 v rfl
  unfold cell at h0
  have eb:(p.add 0).block=p.block:=by unfold Addr.add;rfl
  rw [eb]at h0
  by_cases hl:p.block<h.size
  ·exact hl
  ·rw [jh (by omega)]at h0
   cases h0
theorem yV {o:OA}{a:Addr}{K:Addr→Prop}(e:o=some a)(h:K a):bE o K:=e▸h
theorem ni {h:Hp}{a:OA}{vs:LV}(r:dZ h a vs){i:Nat}{v:Value}(hv:vs[i]?=some v):∃p,a=some p∧cell h (p.add i)=some v:=by
 cases a with
 |none =>
  have e:vs=[]:=r
  rw [e]at hv
  cases hv
 |some p=>exact⟨p,rfl,r i v hv⟩
theorem lq {h:Hp}{b:Nat}{vs:LV}(r:eM h b vs):dZ h (sa b) vs:=lQ r fun j v hv=>by rw [fo];exact hv
theorem qJ(p:Addr)(a b:Nat):(p.add a).add b=p.add (a+b):=by
 unfold Addr.add
 by_cases ha:a=0
 ·subst ha;simp
 ·by_cases hb:b=0
  ·subst hb;simp
  ·rw [if_neg ha,if_neg hb,if_neg (by omega),mL]
end
structure HQ where
 hb:Nat
 bR:Nat→io
 G:xd
 sp:List dg
structure He (h:Hp) (q:HQ) (s:RS):Prop where
 rp:dP h q.hb q.bR (s.dM q.sp) q.G
 v:s.Inv
def Ex(h:Hp)(q:HQ)(h':Hp)(q':HQ):Prop:=q'.hb=q.hb∧iV h q.bR h' q'.bR
def Kg(h:Hp)(q:HQ)(s':RS)(r:Value)(R:RP):Prop:=∀h' q',He h' q' s'→Ex h q h' q'→R r h'
section
variable {h h' h2:Hp} {q q' q2:HQ} {s:RS} {nd:List di} {b t:LN} {id:Nat} {R:RP}
theorem Ex.refl(h:Hp)(q:HQ):Ex h q h q:=⟨rfl,iV.refl _ _⟩
theorem Ex.trans(a:Ex h q h' q')(b:Ex h' q' h2 q2):Ex h q h2 q2:=⟨b.1.trans a.1,a.2.trans b.2⟩
theorem Ex.pm(k:bY N h h')(fr:∀b,h.size≤b→q.bR b=.out):Ex h q h' q:=⟨rfl,k.1,fun b hb ho=>⟨ho,k.2 b hb id⟩⟩
theorem Ex.gK(e:Ex h q h' q'):bY (fun b=>q.bR b≠.out) h h':=⟨e.2.1,fun b hb hn=>(e.2.2 b hb (iq hn)).2⟩
theorem He.cI(x:He h q s)(k:bY N h h'):He h' q s:=⟨x.rp.eG k fun _ e=>e.elim,x.v⟩
theorem He.fr(x:He h q s){b:Nat}(hb:h.size≤b):q.bR b=.out:=x.rp.fresh b hb
theorem Ex.out(e:Ex h q h' q'){b:Nat}(hb:b<h.size)(ho:q.bR b=.out):q'.bR b=.out:=(e.2.2 b hb ho).1
theorem Zf(x:He h q s){r:Nat}(hr:r<18446744073709551616){i:Int}{w:Nat}(hw:w<18446744073709551616)(hR:Kg h q (s.iI r i w).1 (vi (s.iI r i w).2) R) :
  bq PG 92 #[vp (sa q.hb),uv r,vi i,uv w] h R :=
 abd x.v x.rp hr hw fun h' cR G' wR ex=>hR h' ⟨q.hb,cR,G',q.sp⟩ ⟨wR,x.v.set _ _ hw⟩ ⟨rfl,ex⟩
theorem PO(x:He h q s){r:Nat}(hr:r<18446744073709551616){f:Int}(Tf:-9223372036854775808≤f)(Te:f<9223372036854775808){a:Sl}{cs:LN}(hs:dZ h a.a (cs.map bv)) (Kl:a.n=cs.length) (Km:fK cs)
  (hsb:∀p,a.a=some p→cs≠[]→q.bR p.block=.out) (hn:(cs.length:Int)<9223372036854775808) (hR:Kg h q (s.jS r f cs).1 (vi (s.jS r f cs).2) R) :
  bq PG 184 #[vp (sa q.hb),uv r,vi f,.slice a.a a.n a.c] h R :=
 Jb x.v x.rp hr Tf Te hs Kl Km hsb hn fun h' cR G' wR ex=>hR h' ⟨q.hb,cR,G',q.sp⟩ ⟨wR,x.v.U5 _ _ Km⟩ ⟨rfl,ex⟩
theorem R0(x:He h q s){k r w:Int}(hR:Kg h q (s.alloc k r w).1 (vt #[uv (s.alloc k r w).2.1,vi (s.alloc k r w).2.2]) R) :
  bq PG 96 #[vp (sa q.hb),vi k,vi r,vi w] h R :=
 Tk x.v x.rp fun h' cR G' uK wR ex=>hR h' ⟨q.hb,cR,G',uK⟩ ⟨wR,x.v.alloc _ _ _⟩ ⟨rfl,ex⟩
theorem Zg(x:He h q s)(hl:s.bC.length<100000000){r:Nat}(hr:r<18446744073709551616)(hR:Kg h q (s.uR r).1 (vt #[vi ((s.uR r).2.1:Nat),vi (s.uR r).2.2]) R) :
  bq PG 90 #[vp (sa q.hb),uv r] h R :=
 Ws x.v x.rp hl hr fun h' cR G' wR ex=>hR h' ⟨q.hb,cR,G',q.sp⟩ ⟨wR,x.v.root hl⟩ ⟨rfl,ex⟩
theorem ai1(x:He h q s){n:Int}(hR:Kg h q (s.yc n).1 (vi (s.yc n).2) R):bq PG 84 #[vp (sa q.hb),vi n] h R :=
 WD x.v x.rp fun h' cR G' wR ex=>hR h' ⟨q.hb,cR,G',q.sp⟩ ⟨wR,x.v.drop _⟩ ⟨rfl,ex⟩
theorem TE(x:He h q s)(hR:Kg h q s.collect (vt #[]) R):bq PG 32 #[vp (sa q.hb)] h R :=
 LP x.v x.rp fun h' cR G' uK wR ex=>hR h' ⟨q.hb,cR,G',uK⟩ ⟨wR,x.v.collect⟩ ⟨rfl,ex⟩
theorem Zh(x:He h q s){n:Int}(hR:Kg h q (s.lG n).1 (vi (s.lG n).2) R):bq PG 42 #[vp (sa q.hb),vi n] h R :=
 Oq x.v x.rp fun h' cR G' uK wR ex=>hR h' ⟨q.hb,cR,G',uK⟩ ⟨wR,x.v.lG n⟩ ⟨rfl,ex⟩
theorem aoN(x:He h q s){n:Int}(hR:R (vt #[uv (s.atF n).1,vi (s.atF n).2]) h):bq PG 91 #[vp (sa q.hb),vi n] h R:=ah6 x.v x.rp hR
theorem Uq {n:Nat}(hn:n<100000000)(hR:R (vi (dH n:Nat)) h):bq PG 161 #[vi (n:Nat)] h R:=by
 refine Mr ?_
 unfold X0
 refine ca (fun fE=>?_) fun o5=>⟨by omega,?_⟩
 ·have:dH n=0:=by unfold dH;omega
  rw [this]at hR
  exact hR
 ·have e:wrap .i64 (wrap .i64 (Int.tdiv (wrap .i64 ((n:Int)-1)) 8)+1)=(dH n:Int):=by
   rw [bU (x:=(n:Int)-1) (by omega) (by omega),fD (by omega),bU (x:=((n:Int)-1) / 8) (by omega) (by omega),bU (by omega) (by omega)]
   unfold dH
   omega
  rw [e]
  exact hR
structure Zs (h:Hp) (q:HQ) (a:Sl) (b:LN):Prop where
 rd:dZ h a.a (b.map bv)
 n:a.n=b.length
 b8:fK b
 out:∀p,a.a=some p→b≠[]→q.bR p.block=.out∧p.block<h.size
theorem Zs.ex {a:Sl}(e:Zs h q a b)(x:Ex h q h' q'):Zs h' q' a b :=
 ⟨tU x.gK e.rd fun p hp hn=>(have Tc:b≠[]:=fun z=>hn (by rw [z];rfl);⟨(e.out p hp Tc).2,fun hx=>hx (e.out p hp Tc).1⟩),e.n,e.b8,fun p hp hn=>⟨x.out (e.out p hp hn).2 (e.out p hp hn).1,bZ (e.out p hp hn).2 x.2.1⟩⟩
theorem Zp(s:RS)(v:s.Inv)(sh:s.vH nd)(k r w:Int):(s.alloc k r w).2.1<18446744073709551616:=by
 rcases RS.yq v k r w with⟨_,e⟩|⟨_,t,st,vtx,e|⟨t',fk,e,n⟩⟩
 ·rw [e];show (0:Nat)<_;omega
 ·rw [e];show (0:Nat)<_;omega
 ·have v':t'.Inv:=by have:=v.alloc k r w;rw [e]at this;exact this
  rw [e]
  show fk<_
  rw [←n.fk]
  exact RS.qi v' (.inr ((n.da _).2 (.inl rfl)))
theorem ahh(x:He h q s)(sh:s.vH nd)(ok:Ko b){a:Sl}(sr:Zs h q a b)(hR:Kg h q (s.y9 b).1 (vt #[uv (s.y9 b).2.1,vi (s.y9 b).2.2]) R) :
  bq PG 139 #[vp (sa q.hb),.slice a.a a.n a.c] h R:=by
 have hl:=ok.len
 have hw:dH b.length≤513:=by unfold dH;omega
 refine Yn ?_
 unfold afg
 rw [sr.n]
 refine Uq (by omega) ⟨_,rfl,?_⟩
 have e1:wrap .i64 ((1:Int)+(dH b.length:Int))=((1+dH b.length:Nat):Int):=by rw [bU (by omega) (by omega)];omega
 rw [e1]
 have HU:=Zp s x.v sh 1 0 ((1+dH b.length:Nat):Int)
 refine R0 x fun h1 q1 x1 G0=>⟨_,_,rfl,?_⟩
 unfold RS.y9 at hR
 by_cases h0:(s.alloc 1 0 ((1+dH b.length:Nat):Int)).2.2=0
 ·rw [if_pos h0]at hR
  refine cj (by rw [h0];rfl) ?_
  have ew:wrap .u64 (b.length:Int)=(b.length:Int):=eN (by omega) (by omega)
  rw [ew,←G0.1]
  refine Zf x1 HU (by omega) fun h2 q2 x2 ex2=>⟨_,rfl,?_⟩
  have aov:=G0.trans ex2
  have TX:Zs h2 q2 ⟨a.a,b.length,a.c⟩ b:=by have:=sr.ex aov;exact⟨this.rd,rfl,this.b8,this.out⟩
  rw [←ex2.1]
  exact PO (f:=8) (a:=⟨a.a,b.length,a.c⟩) x2 HU (by omega) (by omega) TX.rd TX.n TX.b8 (fun p hp hn=>(TX.out p hp hn).1) (by omega) fun h3 q3 x3 ex3=>⟨_,rfl,hR h3 q3 x3 (aov.trans ex3)⟩
 ·rw [if_neg h0]at hR
  refine cr (by simpa using h0) (hR h1 q1 x1 G0)
theorem P2.dS(v:s.Inv)(x:s.P2 id b)(ok:Ko b):s.uW (s.fk id)=((1,0,1+dH b.length),0):=by
 unfold RS.uW
 rw [RS.jy v (.inr x.da),if_neg x.nz,x.kind,x.cY,RS.EM x ok]
 rfl
theorem P2.len(v:s.Inv)(x:s.P2 id b)(ok:Ko b):s.Cd (s.fk id) 0=(b.length,0):=by
 have h0:(s.dS id).cN[0]?=some b.length:=by
  have hl:=RS.EM x ok
  have:=ok.is.h0
  rw [←x.cN,bB,br (by omega)]at this
  rw [br (by omega)]
  exact congrArg some this
 have:=RS.LZ v (k:=0) x.da x.nz h0
 rw [x.cY]at this
 exact this
theorem Wb(x:He h q s)(B:s.P2 id b)(ok:Ko b)(hR:R (vt #[vi (b.length:Nat),vi 0]) h):bq PG 196 #[vp (sa q.hb),uv (s.fk id)] h R:=by
 have hl:=ok.len
 have HU:=RS.qi x.v (.inr B.da)
 refine XI ?_
 unfold aeI
 refine qr x.v x.rp HU ⟨_,_,_,_,rfl,?_⟩
 rw [P2.dS x.v B ok]
 refine cj rfl ?_
 show Ju (sa q.hb) (s.fk id:Int) false h R
 unfold Ju
 refine cj rfl (DH x.v x.rp HU ⟨_,_,rfl,?_⟩)
 rw [P2.len x.v B ok]
 have e:wrap .i64 (b.length:Int)=(b.length:Int):=bU (by omega) (by omega)
 show R (vt #[vi (wrap .i64 (b.length:Int)),vi 0]) h
 rw [e]
 exact hR
def acW(b:LN)(f n:Int):Prop:=0≤f∧0≤n∧f≤(b.length:Int)∧n≤(b.length:Int)-f
theorem UU(x:He h q s)(B:s.P2 id b)(ok:Ko b){f n:Int}(hf:-9223372036854775808≤f∧f<9223372036854775808)(hn:-9223372036854775808≤n∧n<9223372036854775808)
  (jz:¬acW b f n→R (vt #[.slice none 0 0,vi 42]) h)
  (mD:∀c h',acW b f n→eM h' c (((b.drop f.toNat).take n.toNat).map bv)→h.size≤c→bY N h h'→R (vt #[.slice (sa c) n.toNat n.toNat,vi 0]) h') :
  bq PG 197 #[vp (sa q.hb),uv (s.fk id),vi f,vi n] h R:=by
 have hl:=ok.len
 have HU:=RS.qi x.v (.inr B.da)
 refine XH ?_
 unfold aeH
 refine Wb x B ok ⟨_,_,rfl,cj rfl ?_⟩
 have yR:¬acW b f n→Ao (sa q.hb) (s.fk id:Int) f n true h R:=fun hn=>by unfold Ao;exact cr rfl (jz hn)
 refine ca (fun hc=>yR fun hi=>by have:=hi.1;omega) fun c1=>ca (fun hc=>yR fun hi=>by have:=hi.2.1;omega) fun c2=>ca (fun hc=>yR fun hi=>by have:=hi.2.2.1;omega) fun c3=>?_
 rw [bU (x:=(b.length:Int)-f) (by omega) (by omega)]
 by_cases c4:n>(b.length:Int)-f
 ·rw [decide_eq_true c4]
  exact yR fun hi=>by have:=hi.2.2.2;omega
 ·rw [decide_eq_false c4]
  have GX:acW b f n:=⟨by omega,by omega,by omega,by omega⟩
  unfold Ao
  have e8:wrap .i64 ((8:Int)+f)=8+f:=bU (by omega) (by omega)
  rw [e8]
  refine cj rfl (Th x.v x.rp HU hn.1 (by omega) hn.2 (by omega) (fun wX=>absurd ?_ wX) fun c h' hs row hc k=>⟨⟨_,_,_⟩,_,rfl,?_⟩)
  ·unfold RS.o8
   rw [RS.jy x.v (.inr B.da),RS.EM B ok]
   refine⟨B.nz,by omega,by omega,?_⟩
   unfold dH
   omega
  ·refine mD c h' GX ?_ hc k
   rw [RS.jy x.v (.inr B.da),B.cN]at row
   have e:((List.range n.toNat).map fun j=>bv (kZ (j8 b) ((8+f).toNat+j)))=((b.drop f.toNat).take n.toNat).map bv:=by
    apply cG
    intro j
    rw [bD,bD]
    by_cases hj:j<n.toNat
    ·rw [fL hj,f9 hj,fi,br (by omega)]
     show some (bv (kZ (j8 b) ((8+f).toNat+j)))=some (bv _)
     rw [show (8+f).toNat+j=8+(f.toNat+j)by omega,ok.is.iL _ (by unfold dH;omega),bB,br (by omega)]
     rfl
    ·rw [bV (by simp;omega),bV (by simp;omega)];rfl
   rw [e]at row
   exact row
theorem QE(x:He h q s)(B:s.P2 id b)(ok:Ko b)(hR:∀c h',eM h' c (b.map bv)→h.size≤c→bY N h h'→R (vt #[.slice (sa c) b.length b.length,vi 0]) h') :
  bq PG 156 #[vp (sa q.hb),uv (s.fk id)] h R:=by
 have hl:=ok.len
 refine X2 ?_
 unfold ae0
 refine Wb x B ok ⟨_,_,rfl,cj rfl ?_⟩
 refine UU x B ok ⟨by omega,by omega⟩ ⟨by omega,by omega⟩ (fun hn=>absurd ⟨by omega,by omega,by omega,by omega⟩ hn) fun c h' _ row hc k=>⟨⟨_,_,_⟩,_,rfl,?_⟩
 rw [bu]at row
 have e:(b.drop (0:Int).toNat).take b.length=b:=by
  show (b.drop 0).take b.length=b
  rw [tx,dE]
 rw [e]at row
 exact hR c h' row hc k
end
def an4(b d:Sl)(h:Hp)(R:RP):Prop:=∃e:Int,ZE PG 113 #[.slice b.a b.n b.c,.slice d.a d.n d.c] h (vi e)∧R (vi e:Value) h
theorem ab0 {a0 a1:Sl}{h:Hp}{R:RP}(hF:an4 a0 a1 h R):bq PG 65 #[vl a0,vl a1] h R:=iY (lv:=kw) Tryz.func65 hF
def ae1(b:Int)(h:Hp)(R:RP):Prop:=bq PG 195 #[vu b] h fun r c=>∃a:Int,r=vi a∧R (vi a:Value) c
theorem X3 {a0:Int}{h:Hp}{R:RP}(hF:ae1 a0 h R):bq PG 155 #[vu a0] h R:=iY (lv:=kw) Tryz.func155 hF
def aeZ(b c:Int)(h:Hp)(R:RP):Prop:=bq PG 199 #[vu b] h fun r f=>∃e:Bool,r=vb e∧bq PG 199 #[vu c] f fun r a=>∃d:Bool,r=vb d∧bX e (bX d (R (vi 0:Value) a) (R ((vi (-1):Value)) a)) (bX d (R (vi 1:Value) a) (bX (decide (b<c)) (R ((vi (-1):Value)) a) (bX (decide (b>c)) (R (vi 1:Value) a) (R (vi 0:Value) a))))
theorem X1 {a0 a1:Int}{h:Hp}{R:RP}(hF:aeZ a0 a1 h R):bq PG 158 #[vu a0,vu a1] h R:=iY (lv:=kw) Tryz.func158 hF
def aeJ(a:Int)(h:Hp)(R:RP):Prop:=bX (a==(0:Int)) (R (vi 64:Value) h) (0≤(58:Int)∧(0≤(Int.fdiv (wrap .u64 ((ot .u64 a (wrap .u64 (0-a)))*(285870213051353865:Int))) (2 ^ (min (58:Int).toNat (IntKind.bits .u64))))∧(Int.fdiv (wrap .u64 ((ot .u64 a (wrap .u64 (0-a)))*(285870213051353865:Int))) (2 ^ (min (58:Int).toNat (IntKind.bits .u64))))<((64:Nat):Int))∧∃b:Int,cell h ((⟨2,0,none⟩:Addr).add ((Int.fdiv (wrap .u64 ((ot .u64 a (wrap .u64 (0-a)))*(285870213051353865:Int))) (2 ^ (min (58:Int).toNat (IntKind.bits .u64)))).toNat*1))=some (.int .u8 b)∧R ((vi (wrap .i64 b):Value)) h)
theorem XJ {a0:Int}{h:Hp}{R:RP}(hF:aeJ a0 h R):bq PG 195 #[vu a0] h R:=iY (lv:=kw) Tryz.func195 hF
def aeG(a:Int)(h:Hp)(R:RP):Prop:=R ((vb (a != a):Value)) h
theorem XG {a0:Int}{h:Hp}{R:RP}(hF:aeG a0 h R):bq PG 199 #[vu a0] h R:=iY (lv:=kw) Tryz.func199 hF
end Go.Ev
