/- Objects and their words, as plain lists. No condition. -/
import Derived.Test.YtjigacanjlppiaaGreatDoorQ2
import Derived.Test.YtjigacanjlppiaaGreatDoorProg
set_option linter.all false
set_option maxRecDepth 1000000
open Go.IntKind (wrap)
namespace Go.Ev
structure dg where
 kind:Nat
 cY:LN
 cN:LN
 rQ:Option Nat
def DI(k r w:Nat):Nat:=k+r*256+w*4294967296
namespace dg
def head(o:dg):Nat:=match o.rQ with|none=>DI o.kind o.cY.length o.cN.length|some t=>9223372036854775808+t
def fA(o:dg):LN:=o.cY++o.cN
def size(o:dg):Nat:=1+o.fA.length
def enc(o:dg):LN:=o.head::o.fA
structure Ok (o:dg):Prop where
 k1:1≤o.kind
 k2:o.kind≤255
 nr:o.cY.length≤1048576
 nw:o.cN.length≤1048576
 fl:∀x∈o.fA,x<18446744073709551616
 fw:∀t,o.rQ=some t→t<9223372036854775808
def iI(o:dg)(i v:Nat):dg:=if i<o.cY.length then {o with cY:=o.cY.set i v}else {o with cN:=o.cN.set (i-o.cY.length) v}
theorem AW(o:dg):o.size=1+o.cY.length+o.cN.length:=by simp [size,fA];omega
theorem RL(o:dg):o.enc.length=o.size:=by simp [enc,size];omega
theorem Ch(o:dg)(i v:Nat):(o.iI i v).fA=o.fA.set i v:=by
 unfold iI fA
 split
 ·rename_i h;simp only;rw [lB _ _ h]
 ·rename_i h;simp only;rw [gp _ _ (by omega)]
theorem Tg(o:dg)(i v:Nat):(o.iI i v).head=o.head:=by
 unfold iI
 split
 ·simp [head]
 ·simp [head]
theorem BP(o:dg)(i v:Nat):(o.iI i v).size=o.size:=by
 simp [size,Ch]
theorem Ai {o:dg}(h:o.Ok)(hf:o.rQ=none):o.head=DI o.kind o.cY.length o.cN.length∧o.head<9223372036854775808:=by
 unfold head
 rw [hf]
 have:=h.k2;have:=h.nr;have:=h.nw
 exact⟨rfl,by unfold DI;simp only;omega⟩
end dg
def eQ(os:List dg):LN:=0::os.flatMap dg.enc
def cZ(os:List dg):Nat:=(eQ os).length
def pos(os:List dg)(i:Nat):Nat:=cZ (os.take i)
def yJ:List dg→Nat→Nat→Option Nat
 | [],_,_=>none
 |o::r,p,iL=>if iL=p then some 0 else(yJ r (p+o.size) iL).map (·+1)
def zB(os:List dg)(iL:Nat):Option Nat:=yJ os 1 iL
theorem sf(os:List dg):cZ os=1+(os.map dg.size).sum:=by
 unfold cZ eQ
 rw [dF,List.length_flatMap]
 have:(os.map fun a=>a.enc.length)=os.map dg.size:=cD fun o _=>o.RL
 rw [this];omega
theorem Kx:cZ []=1:=rfl
theorem UA(a b:List dg):cZ (a++b)=cZ a+cZ b-1:=by
 simp only [sf,cx,iG];omega
theorem nL(os:List dg)(o:dg):cZ (os++[o])=cZ os+o.size:=by
 simp only [sf,cx,iG,cU,kI,f8,List.sum_nil];omega
theorem D8(os:List dg):1≤cZ os:=by rw [sf];omega
theorem vI(os:List dg)(o:dg):eQ (os++[o])=eQ os++o.enc:=by
 simp [eQ]
theorem xq(o:dg):1≤o.size:=by unfold dg.size;omega
theorem KR {os:List dg}{i:Nat}{o:dg}(h:os[i]?=some o):pos os (i+1)=pos os i+o.size:=by
 unfold pos
 obtain⟨hi,he⟩:=bp.1 h
 rw [mY,h,Option.toList_some,nL]
theorem agO(os:List dg)(i:Nat):1≤pos os i:=D8 _
theorem yE(os:List dg):pos os os.length=cZ os:=by unfold pos;rw [dE]
theorem KU {os:List dg}{i j:Nat}(h:i≤j):pos os i≤pos os j:=by
 unfold pos
 have e:os.take j=os.take i++(os.drop i).take (j-i):=by
  rw [←List.take_add];congr 1;omega
 rw [e,UA]
 have:=D8 ((os.drop i).take (j-i))
 omega
theorem N6 {os:List dg}{i j:Nat}(h:i<j)(hj:j≤os.length):pos os i<pos os j:=by
 have hi:i<os.length:=by omega
 have h1:=KR (os:=os) (i:=i) (br hi)
 have h2:=KU (os:=os) (i:=i+1) (j:=j) h
 have:=xq os[i]
 omega
theorem xD {os:List dg}{i:Nat}(h:i<os.length):pos os i<cZ os:=by
 rw [←yE];exact N6 h (bH _)
theorem tY {os:List dg}{i:Nat}{o:dg}(h:os[i]?=some o):pos os i+o.size≤cZ os:=by
 rw [←KR h,←yE]
 obtain⟨hi,_⟩:=bp.1 h
 exact KU hi
theorem aaM {os:List dg}{i j:Nat}(hi:i<os.length)(hj:j<os.length)(h:pos os i=pos os j):i=j:=by
 rcases mW i j with hl|hl|hl
 ·have:=N6 hl (ms hj);omega
 ·exact hl
 ·have:=N6 hl (ms hi);omega
theorem I7:∀(os:List dg) (p a i:Nat),yJ os p a=some i↔i<os.length∧p+(((os.take i).map dg.size).sum)=a:=by
 intro os
 induction os with
 |nil=>intro p a i;simp [yJ]
 |cons o r ih =>
  intro p a i
  unfold yJ
  split
  ·rename_i h
   subst h
   cases i with
   |zero=>simp
   |succ i =>
    have:=xq o
    constructor
    ·intro h;simp at h
    ·rintro⟨_,h⟩;simp at h;omega
  ·rename_i h
   cases i with
   |zero=>simp;omega
   |succ i =>
    simp only [jd,Nat.add_right_cancel_iff,exists_eq_right,ih,dF,rS,cU,f8]
    constructor
    ·rintro⟨h1,h2⟩;exact⟨by omega,by omega⟩
    ·rintro⟨h1,h2⟩;exact⟨by omega,by omega⟩
theorem jL {os:List dg}{a i:Nat}:zB os a=some i↔i<os.length∧pos os i=a:=by
 unfold zB pos
 rw [I7,sf]
theorem lA {os:List dg}{i:Nat}(h:i<os.length):zB os (pos os i)=some i:=jL.2 ⟨h,rfl⟩
theorem Wi(os:List dg):zB os 0=none:=by
 cases h:zB os 0 with
 |none=>rfl
 |some i=>have:=(jL.1 h).2;have:=agO os i;omega
theorem ahr {os:List dg}{a i:Nat}(h:zB os a=some i):a<cZ os:=by
 obtain⟨h1,h2⟩:=jL.1 h
 rw [←h2];exact xD h1
theorem xJ {os:List dg}{a:Nat}(h:cZ os≤a):zB os a=none:=by
 cases hi:zB os a with
 |none=>rfl
 |some i=>have:=ahr hi;omega
theorem Ba {os:List dg}{o:dg}{i:Nat}(h:i≤os.length):pos (os++[o]) i=pos os i:=by
 unfold pos
 rw [gB h]
theorem Wj(os:List dg)(o:dg)(a:Nat):zB (os++[o]) a=if a=cZ os then some os.length else zB os a:=by
 split
 ·rename_i h
  subst h
  rw [jL]
  exact⟨by simp,by rw [Ba (bH _),yE]⟩
 ·rename_i h
  cases hi:zB os a with
  |some i =>
   obtain⟨h1,h2⟩:=jL.1 hi
   rw [jL]
   exact⟨by simp;omega,by rw [Ba (ms h1),h2]⟩
  |none =>
   cases hj:zB (os++[o]) a with
   |none=>rfl
   |some j =>
    obtain⟨h1,h2⟩:=jL.1 hj
    by_cases hl:j<os.length
    ·rw [Ba (ms hl)]at h2
     rw [jL.2 ⟨hl,h2⟩]at hi
     cases hi
    ·have:j=os.length:=by simp at h1;omega
     subst this
     rw [Ba (bH _),yE]at h2
     exact absurd h2.symm h
theorem CC {os:List dg}{i:Nat}{o:dg}(h:os[i]?=some o):∃r,eQ os=eQ (os.take i)++(o.enc++r):=by
 obtain⟨hi,he⟩:=bp.1 h
 refine⟨(os.drop (i+1)).flatMap dg.enc,?_⟩
 have e:os=os.take i++o::os.drop (i+1):=by
  rw [←he,←d8 hi,eZ]
 conv=>lhs;rw [e]
 simp [eQ]
theorem BK {os:List dg}{i:Nat}{o:dg}(h:os[i]?=some o):(eQ os)[pos os i]?=some o.head:=by
 obtain⟨r,e⟩:=CC h
 rw [e,bN (by show (eQ (os.take i)).length≤cZ (os.take i);exact bH _)]
 have:pos os i-(eQ (os.take i)).length=0:=by show cZ (os.take i)-cZ (os.take i)=0;omega
 rw [this];rfl
theorem D4 {os:List dg}{i j:Nat}{o:dg}(h:os[i]?=some o)(hj:j<o.fA.length):(eQ os)[pos os i+1+j]?=o.fA[j]?:=by
 obtain⟨r,e⟩:=CC h
 rw [e,bN (by show cZ (os.take i)≤cZ (os.take i)+1+j;omega)]
 have:pos os i+1+j-(eQ (os.take i)).length=j+1:=by show cZ (os.take i)+1+j-cZ (os.take i)=j+1;omega
 rw [this]
 unfold dg.enc
 rw [List.cons_append,oY,bL hj]
theorem vP {os:List dg}{i j:Nat}{f:dg→dg}(hf:∀o,(f o).size=o.size):pos (os.modify i f) j=pos os j:=by
 unfold pos
 rw [sf,sf]
 congr 2
 rw [mM,mM]
 congr 1
 apply cG
 intro k
 rw [bD,bD,dQ]
 cases os[k]? with
 |none=>rfl
 |some o=>simp only [dR];split<;>simp [hf]
theorem CE {os:List dg}{i:Nat}{f:dg→dg}(hf:∀o,(f o).size=o.size):cZ (os.modify i f)=cZ os:=by
 have:=vP (os:=os) (i:=i) (j:=os.length) hf
 rw [←yE,←yE,List.length_modify];exact this
theorem Oj {os:List dg}{i a:Nat}{f:dg→dg}(hf:∀o,(f o).size=o.size):zB (os.modify i f) a=zB os a:=by
 cases h:zB os a with
 |some j =>
  obtain⟨h1,h2⟩:=jL.1 h
  exact jL.2 ⟨by simpa using h1,by rw [vP hf,h2]⟩
 |none =>
  cases hj:zB (os.modify i f) a with
  |none=>rfl
  |some j =>
   obtain⟨h1,h2⟩:=jL.1 hj
   rw [vP hf]at h2
   rw [jL.2 ⟨by simpa using h1,h2⟩]at h
   cases h
theorem AN {os:List dg}{i:Nat}{o:dg}{f:dg→dg}(h:os[i]?=some o)(j v:Nat)(hj:j<o.size)(he:(f o).enc=o.enc.set j v) :
  eQ (os.modify i f)=(eQ os).set (pos os i+j) v:=by
 obtain⟨hi,hio⟩:=bp.1 h
 have e:os=os.take i++o::os.drop (i+1):=by
  rw [←hio,←d8 hi,eZ]
 have e2:os.modify i f=os.take i++f o::os.drop (i+1):=by
  rw [List.modify_eq_take_cons_drop hi,hio]
 rw [e2]
 have hl:(eQ (os.take i)).length=pos os i:=rfl
 have e3:eQ os=eQ (os.take i)++(o.enc++(os.drop (i+1)).flatMap dg.enc):=by
  conv=>lhs;rw [e]
  simp [eQ]
 rw [e3,gp _ _ (by omega),hl,fm,lB _ _ (by rw [dg.RL];exact hj),←he]
 simp [eQ]
theorem D3 {os:List dg}{i j v:Nat}{o:dg}(h:os[i]?=some o)(hj:j<o.fA.length):
  eQ (os.modify i fun o=>o.iI j v)=(eQ os).set (pos os i+1+j) v:=by
 rw [show pos os i+1+j=pos os i+(j+1)by omega]
 refine AN h (j+1) v (by unfold dg.size;omega) ?_
 unfold dg.enc
 rw [dg.Tg,dg.Ch,fg]
theorem Se {os:List dg}{i t:Nat}{o:dg}(h:os[i]?=some o):
  eQ (os.modify i fun o=>{o with rQ:=some t})=(eQ os).set (pos os i) (9223372036854775808+t):=by
 exact AN h 0 _ (xq o) rfl
def Bx(fs:LN)(p:Nat):Bool:=(fs.getD (p / 64) 0).testBit (p%64)
structure qL (fs:LN) (os:List dg):Prop where
 bit:∀p,Bx fs p=(zB os p).isSome
 len:cZ os≤fs.length*64
 lt:∀x∈fs,x<18446744073709551616
theorem qL.modify {fs:LN}{os:List dg}{i:Nat}{f:dg→dg}(h:qL fs os)(hf:∀o,(f o).size=o.size):qL fs (os.modify i f) :=
 ⟨fun p=>by rw [Oj hf];exact h.bit p,by rw [CE hf];exact h.len,h.lt⟩
theorem M9(fs:LN)(k p:Nat):Bx (fs++List.replicate k 0) p=Bx fs p:=by
 unfold Bx
 congr 1
 rw [bB,bB]
 by_cases h:p / 64<fs.length
 ·rw [bL h]
 ·rw [bN (by omega),bV (l:=fs) (by omega),jU]
  split<;>rfl
theorem TG {fs:LN}{a p:Nat}(h:a / 64<fs.length):Bx (fs.set (a / 64) (fs.getD (a / 64) 0 ||| 2 ^ (a%64))) p=(Bx fs p||p==a):=by
 unfold Bx
 rw [bB,bB (l:=fs) (i:=p / 64)]
 by_cases hp:p / 64=a / 64
 ·rw [hp,cE h,mb,Nat.testBit_or,Nat.testBit_two_pow,bB]
  congr 1
  rw [rN]
  simp only [decide_eq_true_eq,beq_iff_eq]
  omega
 ·rw [dl (by omega)]
  have:(p==a)=false:=by rw [beq_eq_false_iff_ne];intro e;subst e;exact hp rfl
  rw [this,uC]
theorem qL.aqD {fs:LN}{os:List dg}{o:dg}(h:qL fs os){k:Nat}(hl:cZ os+o.size≤(fs.length+k)*64) :
  qL ((fs++List.replicate k 0).set (cZ os / 64) ((fs++List.replicate k 0).getD (cZ os / 64) 0 ||| 2 ^ (cZ os%64))) (os++[o]):=by
 have hs:=xq o
 have fE:cZ os / 64<(fs++List.replicate k 0).length:=by simp;omega
 refine⟨fun p=>?_,?_,?_⟩
 ·rw [TG fE,M9,h.bit,Wj]
  by_cases hp:p=cZ os
  ·rw [if_pos hp];simp [hp]
  ·rw [if_neg hp];simp [hp]
 ·rw [nL];simp;omega
 ·intro x hx
  rcases dB hx with hx|hx
  ·rcases bI.1 hx with hx|hx
   ·exact h.lt x hx
   ·rw [(gE.1 hx).2];omega
  ·rw [hx]
   have h1:(fs++List.replicate k 0).getD (cZ os / 64) 0<2 ^ 64:=by
    rw [bB,br fE,mb]
    have:=nQ fE
    rcases bI.1 this with hx|hx
    ·exact h.lt _ hx
    ·rw [(gE.1 hx).2];omega
   have h2:2 ^ (cZ os%64)<2 ^ 64:=nG (by omega) (by omega)
   exact uk h1 h2
theorem L8:qL [0] []:=by
 refine⟨fun p=>?_,by simp [Kx],by simp⟩
 unfold Bx
 have:([0]:LN).getD (p / 64) 0=0:=by
  rw [bB]
  cases p / 64 with
  |zero=>rfl
  |succ n=>simp
 rw [this]
 simp [zB,yJ]
def ad(b:Nat):Addr:=⟨b,0,none⟩
def eM(h:Hp)(b:Nat)(cs:LV):Prop:=∃t,h[b]?=some (.cells cs.toArray t (0,0))
def bY(S:Nat→Prop)(h h':Hp):Prop:=h.size≤h'.size∧∀b,b<h.size→¬S b→h'[b]?=h[b]?
theorem bY.refl(S:Nat→Prop)(h:Hp):bY S h h:=⟨bH _,fun _ _ _=>rfl⟩
theorem bY.trans {S:Nat→Prop}{a b c:Hp}(h:bY S a b)(k:bY S b c):bY S a c :=
 ⟨bP h.1 k.1,fun i hi hs=>(k.2 i (bZ hi h.1) hs).trans (h.2 i hi hs)⟩
theorem bY.mono {S T:Nat→Prop}{a b:Hp}(h:bY S a b)(GV:∀i,i<a.size→S i→T i):bY T a b :=
 ⟨h.1,fun i hi ht=>h.2 i hi fun hs=>ht (GV i hi hs)⟩
theorem kD(b o n:Nat):(⟨b,o,none⟩:Addr).add n=⟨b,o+n,none⟩:=by
 unfold Addr.add
 split
 ·rename_i h;subst h;rfl
 ·rfl
theorem cm(b n:Nat):(ad b).add n=⟨b,n,none⟩:=by rw [ad,kD,fo]
theorem eE {h:Hp}{b:Nat}{cs:LV}(hr:eM h b cs):b<h.size:=by
 obtain⟨t,ht⟩:=hr
 exact(jg.1 ht).1
theorem bS {h:Hp}{b:Nat}{cs:LV}(hr:eM h b cs)(o:Nat):cell h ⟨b,o,none⟩=cs[o]?:=by
 obtain⟨t,ht⟩:=hr
 unfold cell
 simp only [ht]
 simp
theorem RY {h:Hp}{b:Nat}{cs:LV}(hr:eM h b cs):cell h (ad b)=cs[0]?:=bS hr 0
theorem Rg {h:Hp}{b:Nat}{cs:LV}(hr:eM h b cs)(o:Nat):frz h ⟨b,o,none⟩=false:=by
 obtain⟨t,ht⟩:=hr
 unfold frz
 simp only [ht]
 simp
theorem jH {h:Hp}{b:Nat}{cs:LV}(hr:eM h b cs){o:Nat}(ho:o<cs.length):gZ h ⟨b,o,none⟩ :=
 ⟨⟨_,by rw [bS hr,br ho]⟩,Rg hr o⟩
theorem sD(h:Hp)(a:Addr)(v:Value):(fy h a v).size=h.size:=by simp [fy]
theorem nM(h:Hp)(a:Addr)(v:Value){b:Nat}(hb:b≠a.block):(fy h a v)[b]?=h[b]?:=by
 unfold fy
 rw [gY,if_neg (fun e=>hb e.symm)]
theorem hG {h:Hp}{b:Nat}{cs:LV}(hr:eM h b cs)(o:Nat)(v:Value):eM (fy h ⟨b,o,none⟩ v) b (cs.set o v):=by
 obtain⟨t,ht⟩:=hr
 refine⟨t,?_⟩
 unfold fy
 rw [gY,if_pos rfl,ht]
 simp
theorem nh {h:Hp}{b:Nat}{cs:LV}(hr:eM h b cs){a:Addr}(v:Value)(hb:b≠a.block):eM (fy h a v) b cs:=by
 obtain⟨t,ht⟩:=hr
 exact⟨t,by rw [nM _ _ _ hb];exact ht⟩
theorem xz {h h':Hp}{b:Nat}{cs:LV}(hr:eM h b cs)(e:h'[b]?=h[b]?):eM h' b cs:=by
 obtain⟨t,ht⟩:=hr
 exact⟨t,by rw [e];exact ht⟩
theorem ER(h:Hp)(o:Obj){b:Nat}(hb:b<h.size):(h.push o)[b]?=h[b]?:=by
 rw [Array.getElem?_push,if_neg (by omega)]
theorem pd {h:Hp}{b:Nat}{cs:LV}(hr:eM h b cs)(o:Obj):eM (h.push o) b cs:=xz hr (ER h o (eE hr))
theorem du(h:Hp)(cs:Array Value)(t:TypeId):eM (h.push (.cells cs t)) h.size cs.toList:=⟨t,by simp⟩
theorem gf(h:Hp){b:Nat}(o:Nat)(v:Value){S:Nat→Prop}(hS:S b):bY S h (fy h ⟨b,o,none⟩ v) :=
 ⟨by rw [sD];exact bH _,fun i _ hi=>nM h _ v (fun e=>hi (e▸hS))⟩
theorem cF(h:Hp)(o:Obj)(S:Nat→Prop):bY S h (h.push o):=⟨by simp,fun i hi _=>ER h o hi⟩
theorem bF {S:Nat→Prop}{h h':Hp}(k:bY S h h'){b:Nat}{cs:LV}(hr:eM h b cs)(hb:¬S b):eM h' b cs:=xz hr (k.2 b (eE hr) hb)
def B1(cs:LV)(o:Nat)(l:LV):LV:=cs.take o++l++cs.drop (o+l.length)
theorem QN {cs l:LV}{o:Nat}(h:o+l.length≤cs.length):(B1 cs o l).length=cs.length:=by simp [B1];omega
theorem aaR {cs:LV}{o:Nat}{v:Value}{l:LV}(h:o+(v::l).length≤cs.length):B1 (cs.set o v) (o+1) l=B1 cs o (v::l):=by
 simp only [dF]at h
 have ho:o<cs.length:=by omega
 have e:cs.set o v=cs.take o++v::cs.drop (o+1):=by rw [List.set_eq_take_append_cons_drop,if_pos ho]
 have hl:(cs.take o).length=o:=by rw [dm];omega
 have e1:(cs.set o v).take (o+1)=cs.take o++[v]:=by
  rw [e,List.take_append,hl,eT (by omega),show o+1-o=1 by omega]
  rfl
 have e2:(cs.set o v).drop (o+1+l.length)=cs.drop (o+(l.length+1)):=by
  rw [e,kP,hl,gH (by omega),show o+1+l.length-o=l.length+1 by omega,nZ,tA,eU]
  congr 1
  omega
 unfold B1
 rw [e1,dF,e2]
 simp
theorem uQ {b:Nat}:∀(l:LV) (h:Hp) (cs:LV) (o i:Nat),eM h b cs→o+i+l.length≤cs.length→eM (o9 h ⟨b,o,none⟩ l i) b (B1 cs (o+i) l):=by
 intro l
 induction l with
 |nil=>intro h cs o i hr hl;unfold o9 B1;simpa using hr
 |cons v l ih =>
  intro h cs o i hr hl
  unfold o9
  rw [kD]
  have:=ih (fy h ⟨b,o+i,none⟩ v) (cs.set (o+i) v) o (i+1) (hG hr _ _) (by simp at hl ⊢;omega)
  rwa [←mL,aaR (by simpa using hl)]at this
theorem uI {b:Nat}:∀(l:LV) (h:Hp) (cs:LV) (o i:Nat),eM h b cs→o+i+l.length≤cs.length→(∀v∈l,mj v=true)→wH h ⟨b,o,none⟩ l i:=by
 intro l
 induction l with
 |nil=>intros;trivial
 |cons v l ih =>
  intro h cs o i hr hl hc
  refine⟨hc v (bQ ..),?_,?_⟩
  ·rw [kD];exact jH hr (by simp at hl;omega)
  ·rw [kD]
   exact ih _ (cs.set (o+i) v) o (i+1) (hG hr _ _) (by simp at hl ⊢;omega) fun u hu=>hc u (bJ _ hu)
theorem Eo {b:Nat}:∀(l:LV) (h:Hp) (o i:Nat) {k:Nat},k≠b→(o9 h ⟨b,o,none⟩ l i)[k]?=h[k]?:=by
 intro l
 induction l with
 |nil=>intros;rfl
 |cons v l ih =>
  intro h o i k hk
  unfold o9
  rw [ih _ _ _ hk,kD,nM _ _ _ hk]
theorem NJ {b:Nat}:∀(l:LV) (h:Hp) (o i:Nat),(o9 h ⟨b,o,none⟩ l i).size=h.size:=by
 intro l
 induction l with
 |nil=>intros;rfl
 |cons v l ih=>intro h o i;unfold o9;rw [ih,sD]
theorem sV(h:Hp){b:Nat}(o i:Nat)(l:LV){S:Nat→Prop}(hS:S b):bY S h (o9 h ⟨b,o,none⟩ l i) :=
 ⟨by rw [NJ];exact bH _,fun k _ hk=>Eo l h o i (fun e=>hk (e▸hS))⟩
theorem lQ {h:Hp}{b:Nat}{cs:LV}(hr:eM h b cs){o:Nat}{l:LV}(hl:∀j v,l[j]?=some v→cs[o+j]?=some v):Da h ⟨b,o,none⟩ l:=by
 intro j v hj
 rw [kD,bS hr]
 exact hl j v hj
structure kM (sz:Nat) (h:Hp) (a:OA) (n c:Nat) (ob:Option Nat) (vs:LV):Prop where
 len:vs.length=n*sz
 nil:ob=none→a=none∧n=0∧c=0
 row:∀b,ob=some b→a=some (ad b)∧n≤c∧∃ic,eM h b (vs++ic)∧vs.length+ic.length=c*sz
theorem kM.eG {sz:Nat}{h h':Hp}{a:OA}{n c:Nat}{ob:Option Nat}{vs:LV}(s:kM sz h a n c ob vs)(hk:∀b,ob=some b→h'[b]?=h[b]?):kM sz h' a n c ob vs :=
 ⟨s.len,s.nil,fun b hb=>by obtain⟨h1,h2,j,h3,h4⟩:=s.row b hb;exact⟨h1,h2,j,xz h3 (hk b hb),h4⟩⟩
theorem uL(sz:Nat)(h:Hp):kM sz h none 0 0 none []:=⟨by simp,fun _=>⟨rfl,rfl,rfl⟩,fun b hb=>by cases hb⟩
theorem kM.lt {sz:Nat}{h:Hp}{a:OA}{n c b:Nat}{vs:LV}(s:kM sz h a n c (some b) vs):b<h.size:=by
 obtain⟨_,_,j,hr,_⟩:=s.row b rfl
 exact eE hr
theorem kM.cell {sz:Nat}{h:Hp}{a:OA}{n c b:Nat}{vs:LV}(s:kM sz h a n c (some b) vs) {o:Nat} (ho:o<vs.length):cell h ⟨b,o,none⟩=vs[o]?:=by
 obtain⟨_,_,j,hr,_⟩:=s.row b rfl
 rw [bS hr,bL ho]
theorem kM.set {sz:Nat}{h:Hp}{a:OA}{n c b:Nat}{vs:LV}(s:kM sz h a n c (some b) vs) {o:Nat} (ho:o<vs.length) (v:Value) :
  gZ h ⟨b,o,none⟩∧kM sz (fy h ⟨b,o,none⟩ v) a n c (some b) (vs.set o v):=by
 obtain⟨h1,h2,j,hr,hc⟩:=s.row b rfl
 refine⟨jH hr (by simp;omega),by rw [cd];exact s.len,nofun,fun b' hb=>?_⟩
 obtain rfl:b=b':=by simpa using hb
 refine⟨h1,h2,j,?_,by simpa using hc⟩
 have:=hG hr o v
 rwa [lB _ _ ho]at this
theorem o6(v:Value)(n:Nat):ja #[v] (n*1)=(List.replicate n v).toArray:=by
 rw [cQ]
 unfold ja
 apply gd
 apply cG
 intro i
 simp only [Array.toList_map,Array.toList_range,bD]
 by_cases hi:i<n
 ·rw [fL hi,dR,jU,if_pos hi]
  simp [Nat.mod_one]
 ·rw [bV (by simp;omega),bV (by simp;omega)]
  rfl
theorem AL(z:Array Value)(n:Nat):(ja z n).size=n:=by simp [ja]
theorem yp {e sz ze:Nat}{z:Array Value}{a:OA}{n c m:Nat}{ob:Option Nat}{vs fz:LV}{h:Hp}{K:OA→Nat→Nat→Hp→Prop}
  (s:kM sz h a n c ob vs) (hz:z.size=sz) (hl:fz.length=m*sz) (kY:∀v∈fz,mj v=true) (hb:(2*(n+m)+768)*ze≤2 ^ 48) (fE:n+m<2 ^ 62)
  (hK:∀a' c' jK h',kM sz h' a' (n+m) c' jK (vs++fz)→(jK=ob∧bY (fun b=>ob=some b) h h'∨jK=some h.size∧bY (fun _=>False) h h')→K a' (n+m) c' h') :
  Av e sz ze z a n c (n+m) fz h K:=by
 have BG:=s.len
 refine⟨fun hc=>?_,fun hc=>⟨hb,fE,?_⟩⟩
 ·cases ob with
  |none =>
   obtain⟨rfl,rfl,rfl⟩:=s.nil rfl
   obtain rfl:m=0:=by omega
   have hn:fz=[]:=dA.1 (by omega)
   have hv:vs=[]:=dA.1 (by omega)
   subst hn hv
   exact hK none 0 none h (uL sz h) (.inl ⟨rfl,bY.refl _ _⟩)
  |some b =>
   obtain⟨rfl,h2,j,hr,Jj⟩:=s.row b rfl
   show wH h ((ad b).add (n*sz)) fz 0∧_
   rw [cm]
   have xN:n*sz+0+fz.length≤(vs++j).length:=by
    rw [bG,Jj,hl]
    have:=gA sz hc
    rw [hY]at this
    omega
   refine⟨uI fz h _ _ 0 hr xN kY,?_⟩
   refine hK (some (ad b)) c (some b) _ ⟨by simp [BG,hl,hY],nofun,fun b' fV=>?_⟩ (.inl ⟨rfl,sV h _ _ _ rfl⟩)
   obtain rfl:b=b':=by simpa using fV
   refine⟨rfl,hc,j.drop fz.length,?_,?_⟩
   ·have:=uQ fz h _ (n*sz) 0 hr xN
    rw [iF]at this
    have e1:B1 (vs++j) (n*sz) fz=vs++fz++j.drop fz.length:=by
     unfold B1
     rw [←BG,List.take_left,kP]
     congr 2
     ·rw [jf (by omega)]
      simp
    rwa [e1]at this
   ·rw [bG,fu,hl]
    rw [bG,Jj]at xN
    omega
 ·refine⟨vs,?_,BG,fun nc h1 h2=>?_⟩
  ·cases ob with
   |none =>
    obtain⟨rfl,rfl,rfl⟩:=s.nil rfl
    exact dA.1 (by omega)
   |some b =>
    obtain⟨rfl,_,j,hr,_⟩:=s.row b rfl
    exact lQ hr fun i v hv=>by
     rw [fo,bL (bp.1 hv).1];exact hv
  ·refine hK _ nc (some h.size) _ ⟨by simp [BG,hl,hY],nofun,fun b' fV=>?_⟩ (.inr ⟨rfl,cF _ _ _⟩)
   obtain rfl:h.size=b':=by simpa using fV
   refine⟨rfl,h1,(ja z ((nc-(n+m))*z.size)).toList,?_,?_⟩
   ·have:=du h (vs.toArray++fz.toArray++ja z ((nc-(n+m))*z.size)) e
    simpa using this
   ·have e1:(ja z ((nc-(n+m))*z.size)).toList.length=(nc-(n+m))*sz:=by
     rw [fx,AL,hz]
    rw [e1,bG,BG,hl,←hY,←hY]
    congr 1
    omega
theorem ca {p:Prop}[Decidable p] {A B:Prop} (h1:p→A) (h2:¬p→B):bX (decide p) A B:=by
 by_cases h:p
 ·simp only [h,decide_true];exact h1 h
 ·simp only [h,decide_false];exact h2 h
theorem fY {t:Bool}{A B:Prop}(h1:t=true→A)(h2:t=false→B):bX t A B:=by
 cases t with
 |true=>exact h1 rfl
 |false=>exact h2 rfl
theorem cr {t:Bool}{A B:Prop}(h:t=true)(h1:A):bX t A B:=by subst h;exact h1
theorem cj {t:Bool}{A B:Prop}(h:t=false)(h1:B):bX t A B:=by subst h;exact h1
abbrev sa(b:Nat):OA:=some (ad b)
theorem ia {h:Hp}{b o:Nat}{cs:LV}{v:Value}(r:eM h b cs)(e:cs[o]?=some v):cell h ((ad b).add o)=some v:=by rw [cm];exact(bS r o).trans e
open Go.Proofs
abbrev vi(x:Int):Value:=.int .i64 x
abbrev vu(x:Int):Value:=.int .u64 x
abbrev vp(x:OA):Value:=.pointer x
abbrev vl(s:Sl):Value:=.slice s.a s.n s.c
abbrev vb(b:Bool):Value:=.bool b
abbrev vt(a:Array Value):Value:=.tuple a
abbrev St(h:Hp)(a:Addr)(v:Value)(K:Hp→Prop):Prop:=gZ h a∧gi (fy h a v) K
abbrev CI(k:IntKind)(h:Hp)(a:Addr)(t:Int):Prop:=∃y:Int,cell h a=some (.int k y)∧Next.value (.int k y)=Next.value (.int k t)
abbrev CP(h:Hp)(a:Addr)(t:OA):Prop:=∃y:OA,cell h a=some (.pointer y)∧Next.value (.pointer y)=Next.value (.pointer t)
abbrev CS(h:Hp)(a:Addr)(t:Sl):Prop:=∃y:Sl,cell h a=some (.slice y.a y.n y.c)∧Next.value (.slice y.a y.n y.c)=Next.value (.slice t.a t.n t.c)
noncomputable abbrev bd (f:Func):Code:=f.body.getD .skip
def kw(m:Nat):LN:=[]
inductive SK|i (k:IntKind)|p|a|l|v
def SK.T:SK→Type
 | .i _=>Int
 | .p=>OA
 | .a=>Addr
 | .l=>Sl
 | .v=>Value
def SK.V:(k:SK)→k.T→Value
 | .i k,x=>.int k x
 | .p,x=>.pointer x
 | .a,x=>.pointer (some x)
 | .l,(x:Sl)=>.slice x.a x.n x.c
 | .v,x=>x
def SK.D:(k:SK)→LV→Nat→(k.T→Prop)→Prop
 | .i k,e,n,K=>P7 k e n K
 | .p,e,n,K=>P5 e n K
 | .a,e,n,K=>P8 e n K
 | .l,e,n,K=>P6 e n K
 | .v,e,n,K=>P4 e n K
theorem cdt {t:Bool}{A B:Prop}(h:t=true)(a:A):bX t A B:=by subst h;exact a
theorem SK.out(k:SK){e:LV}{n:Nat}{K:k.T→Prop}(x:k.D e n K):∃y,e[n]?=some (k.V y)∧K y:=by
 cases k with
 |i k=>exact P7.out x
 |p=>exact P5.out x
 |a=>exact P8.out x
 |l=>exact P6.out x
 |v=>exact P4.out x
theorem SK.asE(k:SK){e:LV}{n:Nat}{K:k.T→Prop}{y:k.T}(x:e[n]?=some (k.V y)) (z:K y):k.D e n K:=by
 cases k with
 |i k=>show P7 k e n K;unfold P7;rw [x];exact cdt (by simp) z
 |p=>show P5 e n K;unfold P5;rw [x];exact z
 |a=>show P8 e n K;unfold P8;rw [x];exact z
 |l=>show P6 e n K;unfold P6;rw [x];exact z
 |v=>show P4 e n K;unfold P4;rw [x];exact z
abbrev SL:=List (Nat × SK)
def Nv(α:Type):SL→Type
 | []=>α
 | (_,k)::l=>k.T→Nv α l
def ZT:SL→Type
 | []=>Unit
 | (_,k)::l=>k.T × ZT l
def Nv.at {α:Type}:{l:SL}→Nv α l→ZT l→α
 | [],c,_=>c
 | (_,_)::_,c,t=>Nv.at (c t.1) t.2
def ZT.ps:{l:SL}→ZT l→List (Nat × Value)
 | [],_=>[]
 | (i,k)::_,t=>(i,k.V t.1)::t.2.ps
def ajs:{l:SL}→Nv Prop l→Prop
 | [],p=>p
 | (_,_)::_,p=>∀x,ajs (p x)
def afT {α β:Type}(f:α→β→Prop):{l:SL}→Nv α l→Nv β l→Nv Prop l
 | [],a,b=>f a b
 | (_,_)::_,a,b=>fun x=>afT f (a x) (b x)
def acH:{l:SL}→LV→Nv (Hp→Prop) l→Hp→Prop
 | [],_,J,h=>J h
 | (i,k)::_,e,J,h=>k.D e i fun x=>acH e (J x) h
def IL(N:Nat)(l:SL)(J:Nat→Nv (Hp→Prop) l) (n:Nat) (env:LV) (h:Hp):Prop:=adR env N (acH env (J n) h)
theorem aoV {α β:Type}{f:α→β→Prop}:∀ {l:SL} {a:Nv α l} {b:Nv β l},ajs (afT f a b)→∀t,f (a.at t) (b.at t)
 | [],_,_,h,_=>h
 | (_,_)::_,_,_,h,t=>aoV (h t.1) t.2
theorem MY:∀ {l:SL} {e:LV} {J:Nv (Hp→Prop) l} {h:Hp},acH e J h→∃t:ZT l,(∀p∈t.ps,e[p.1]?=some p.2)∧J.at t h
 | [],_,_,_,h=>⟨(),by simp [ZT.ps],h⟩
 | (i,k)::l,e,J,h,x=>by
  obtain⟨n,he,x⟩:=k.out x
  obtain⟨t,ht,y⟩:=MY x
  exact⟨(n,t),fun p hp=>by
   rcases ck.1 hp with rfl|hp
   ·exact he
   ·exact ht p hp,y⟩
theorem RQ:∀ {l:SL} {e:LV} {J:Nv (Hp→Prop) l} {h:Hp} (t:ZT l),(∀p∈t.ps,e[p.1]?=some p.2)→J.at t h→acH e J h
 | [],_,_,_,_,_,h=>h
 | (i,k)::l,e,J,h,t,ht,x=>k.asE (ht (i,k.V t.1) (bQ ..)) (RQ t.2 (fun p hp=>ht p (bJ _ hp)) x)
theorem IT:∀ {l:SL} (t:ZT l),t.ps.map (·.1)=l.map (·.1)
 | [],_=>rfl
 | (_,_)::_,t=>congrArg (_::·) (IT t.2)
theorem look:∀ {l:List (Nat × Value)},(l.map (·.1)).Nodup→∀p∈l,l.lookup p.1=some p.2
 |q::l,h,p,hp=>by
  rw [cU,cV]at h
  rcases ck.1 hp with rfl|hq
  ·simp [List.lookup]
  ·have iS:(p.1==q.1)=false:=beq_eq_false_iff_ne.2 fun e=>h.1 (e▸cy.2 ⟨p,hq,rfl⟩)
   obtain⟨a,b⟩:=q
   rw [List.lookup_cons,iS]
   exact look h.2 p hq
theorem iz {N:Nat}{l:SL}{ev:Kc→LV→Hp→Prop}{Q:Kc}{h0:Hp}{J:Nat→Nv (Hp→Prop) l} {n0:Nat} (t0:ZT l) (hi:(J n0).at t0 h0)
  (X:Nat→Nv ((Nat→Value)→Hp→Prop) l)
  (hr:∀n,ajs (afT (fun(a:Hp→Prop) (b:(Nat→Value)→Hp→Prop)=>∀g h,a h→b g h) (J n) (X n)))
  (ok:(decide ((l.map (·.1)).Nodup)&&l.all fun p=>decide (p.1<N))=true:=by decide) (e:∀n (t:ZT l) g h,ev (sS (IL N l J) n Q) (lU N t.ps g) h=(X n).at t g h:=by intros;kernel_rfl):dO ev Q t0.ps N h0:=by
 rw [eD,decide_eq_true_eq,mg]at ok
 refine⟨IL N l J,n0,fun g=>?_,fun n env h x=>?_⟩
 ·unfold IL adR
  refine cdt (by unfold lU;simp) (RQ t0 (fun p hp=>?_) hi)
  have hk:p.1<N:=by
   have:p.1∈l.map (·.1):=by rw [←IT t0];exact cy.2 ⟨p,hp,rfl⟩
   obtain⟨q,hq,e⟩:=cy.1 this
   have:=ok.2 q hq
   rw [decide_eq_true_eq]at this
   exact e▸this
  unfold lU
  rw [bD,fL hk,dR,look (by rw [IT];exact ok.1) p hp]
  rfl
 ·obtain⟨hl,x⟩:=f7 x
  have hl:env.length=N:=by simpa using hl
  obtain⟨t,ht,y⟩:=MY x
  rw [VS hl ht,e]
  exact aoV (hr n) t _ _ y
def tkL:List (List VK):=(fun(a b c d e f g h i j:VK)=>[[],[b],[c],[c],[g],[d],[d],[c,c,g,d],[c,c,g,d],[h],[h],[h],[f],[h,f],[h,f],[e],[e],[e],[e],[e],[b],[i],[a],[c,a],[c,a],[b],[b],[f],[a],[f,c,a,a],[f,c,a,a],[b],[e],[e],[],[b],[b],[a],[a],[a],[g,a,f,f,c],[g,a,f,f,c],[b],[b],[b],[b],[b],[b],[c],[],[b],[b],[e],[a,a,a],[a,a,a],[b],[],[b],[b],[b],[b],[b],[b],[b],[c,c,c,c,c,c,c,c,c],[c,c,c,c,c,c,c,c,c],[b],[b],[b],[c,c,c,c],[c,c,c,c],[b],[],[b],[b],[f],[],[b],[b],[b],[b],[b],[b],[b],[b],[e],[],[b],[c,c,c,a,a,c,c,f,f,f],[c,c,c,a,a,c,c,f,f,f],[b],[b],[],[b],[b],[b],[b],[b],[b],[b],[b],[f,a],[f,a],[b],[e,c],[e,c],[],[b],[b],[b],[b],[],[b],[e],[a],[a],[a],[a],[a],[a],[a],[a],[a],[a],[a,a,c,a,a,c,a,a,c,a,a,c,a,a,c,a,a,c,a,a,c,a,a,c,a,a,c,a,a,c,c,c,c],[a,a,c,a,a,c,a,a,c,a,a,c,a,a,c,a,a,c,a,a,c,a,a,c,a,a,c,a,a,c,c,c,c],[e],[c],[c],[e],[a,a,a,a],[a,a,a,a],[b],[b],[b],[b],[e],[a],[a,a,a,a,a,a,a,a,c],[a,a,a,a,a,a,a,a,c],[e],[a,a],[a,a],[b],[e],[a],[a],[a],[c,e,e,a,a,a,c,c,c,a,c,c,c,c,c,c,c,c,c],[c,e,e,a,a,a,c,c,c,a,c,c,c,c,c,c,c,c,c],[b],[],[b],[],[b],[b],[b],[b],[b],[b],[b],[b],[e],[a],[a],[c,a,a,a],[c,a,a,a],[a],[a],[e,e,a,a,a],[e,e,a,a,a],[e,c,g],[e,c,g],[b],[],[b],[b],[b],[a],[b],[b],[b],[b],[],[b],[b],[b],[b],[g,f],[g,f],[b],[b],[b],[b],[],[b],[b],[b],[e],[a,a,a,a],[a,a,a,a],[b],[c,c,a,a],[c,c,a,a],[b],[],[c,a,a],[c,a,a],[b],[b],[b],[b],[b],[b],[b],[],[b],[c,c],[c,c],[a],[f,a,c,c,c,c,c],[f,a,c,c,c,c,c],[e],[e],[b],[c,c],[c,c],[],[b],[c,f],[c,f],[b],[b],[],[b],[],[b],[f,a,c,f,f],[f,a,c,f,f],[b],[b],[],[b],[b],[b],[b],[b],[b],[b],[],[b],[],[b],[b],[b],[b],[b],[b],[b],[j],[b],[b],[b],[b],[c],[],[b],[b],[b],[b],[b],[a],[a,c],[a,c],[a],[a,a],[a,a],[a],[c,h],[c,h],[a],[c,a],[c,a],[a],[c,f,a],[c,f,a],[a],[h,c,g,c,c,c,c],[h,c,g,c,c,c,c],[b],[b],[b],[b],[b],[b],[b],[b],[b],[d,d,d,d,d,d,d,d,d,d,d,d,d,d,d,d,d,d,d,d,d,d,d,d,d,d,d,d,d,d,d,d],[d,d,d,d,d,d,d,d,d,d,d,d,d,d,d,d,d,d,d,d,d,d,d,d,d,d,d,d,d,d,d,d,d,d,d,d,d,d,d,d,d,d,d,d,d,d,d,d,d,d,d,d,d,d,d,d,d,d,d,d,d,d,d,d],[b],[b],[b],[b],[b],[b],[f],[b],[b],[e],[b],[b],[b],[b],[b],[e],[b],[b],[b],[e,e,e,h],[e,e,e,h],[],[],[],[d],[d],[b],[e],[i],[i],[f,f,j,d,d,d,d,b,e,i,i],[f,f,j,d,d,d,d,b,e,i,i],[],[b],[b]]) .sl .any (.int .i64) (.int .u8) .ptr (.int .u64) .bool .str (.int .i32) (.int .u32)
def rkL:List (List RK):=(fun(a b c d e f g:RK)=>[[],[],[],[b],[b],[b],[b],[b],[b],[b],[b],[b],[b],[b],[b],[b],[b],[b],[b],[b],[e,e],[a],[a],[a],[a],[b],[d],[d],[c,c,c,a],[b],[c,d],[b],[],[d],[b],[d],[c],[b],[b],[b],[],[.agg [.int .i64,.int .i64,.int .i64,.int .i64,.int .i64,.int .i64,.int .i64,.int .i64,.int .i64]],[a],[b],[.agg [.int .i64,.int .i64,.int .i64,.int .i64]],[e,a],[c],[b],[b,a],[a],[g],[b],[b],[b],[e,b],[b],[b],[e,a],[e,a],[d],[a],[c],[a],[g],[d],[a],[d],[c,a,c],[c],[c],[],[],[c,a],[d],[b],[b],[],[a],[],[b],[d],[],[b],[b],[a],[a],[a],[],[a],[a,a,a,a],[a,a],[c,a],[a],[],[],[c,a],[c,a],[],[],[b],[b],[b],[b],[b],[b],[e,a],[d],[],[a],[d],[d],[a],[],[a],[c,a],[a,a],[c],[d],[],[c],[a],[a],[g,a,b],[.leaf (.int .u8)],[b],[b],[],[d],[b],[d],[b],[],[],[e],[b],[b],[a,a,a,a],[a,a],[b],[c,a],[c,a],[a,a],[a,a],[b],[e],[a],[c,a,b],[a],[c,a,b],[b,a],[a,b],[b],[c,d],[d],[b],[a],[d,a],[],[a],[],[a],[a],[b],[b],[b],[],[],[],[],[],[],[],[],[],[],[b],[b],[.leaf (.int .u8)],[d],[b],[a,a,a,a],[a,b,a],[d,a,a],[a],[a],[c,a],[b],[],[b],[a],[b],[],[c],[b],[a],[a],[a,a],[d,a],[],[b],[],[],[],[a,a],[],[b],[a],[a,b],[a],[a],[b],[c],[.agg [.sl,.int .i64]],[.agg [.sl,.sl]],[.agg [.int .i64,.int .i64,.sl,.sl]],[.agg [.int .i64,.str]],[.agg [.int .i64,.sl]],[.agg [.int .i64,.int .u64,.sl]],[.agg [.str,.int .i64,.bool,.int .i64,.int .i64,.int .i64,.int .i64]],[b],[a],[c],[d],[d,a],[],[],[],[a,a],[],[b],[a],[a,b],[],[c],[c],[a],[a],[c],[],[a],[a],[a,a],[a,a],[f],[],[f],[],[f],[],[f],[],[f],[],[f],[],[a],[f],[],[f],[],[d,a],[c,a],[a],[a],[d,a],[f],[],[],[],[],[]]) (.leaf (.int .i64)) (.leaf .bool) (.leaf (.int .u64)) (.leaf .sl) (.leaf .ptr) (.leaf .str) (.leaf .any)
def rtL:List (List RK):=(fun(a b c d e f g h i:RK)=>[[],[a],[c],[c],[f],[g],[g],[.agg [.int .i64,.int .i64,.bool,.int .u8]],[.agg [.int .i64,.int .i64,.bool,.int .u8]],[h],[h],[h],[e],[.agg [.str,.int .u64]],[.agg [.str,.int .u64]],[d],[d],[d],[.agg [.ptr]],[.agg [.ptr]],[a],[i],[b],[.agg [.int .i64,.sl]],[.agg [.int .i64,.sl]],[a],[a],[e],[b],[.agg [.int .u64,.int .i64,.sl,.sl]],[.agg [.int .u64,.int .i64,.sl,.sl]],[a],[d],[d],[d,d],[a],[a],[b],[b],[b],[.agg [.bool,.sl,.int .u64,.int .u64,.int .i64]],[.agg [.bool,.sl,.int .u64,.int .u64,.int .i64]],[a],[a],[a],[a],[a],[a],[c],[e,e,e,c],[a],[a],[d],[.agg [.sl,.sl,.sl]],[.agg [.sl,.sl,.sl]],[a],[e,b],[a],[a],[a],[a],[a],[a],[a],[.agg [.int .i64,.int .i64,.int .i64,.int .i64,.int .i64,.int .i64,.int .i64,.int .i64,.int .i64]],[.agg [.int .i64,.int .i64,.int .i64,.int .i64,.int .i64,.int .i64,.int .i64,.int .i64,.int .i64]],[a],[a],[a],[.agg [.int .i64,.int .i64,.int .i64,.int .i64]],[.agg [.int .i64,.int .i64,.int .i64,.int .i64]],[a],[d,c],[a],[a],[e],[f,c],[a],[a],[a],[a],[a],[a],[a],[a],[d],[d,f],[a],[.agg [.int .i64,.int .i64,.int .i64,.sl,.sl,.int .i64,.int .i64,.int .u64,.int .u64,.int .u64]],[.agg [.int .i64,.int .i64,.int .i64,.sl,.sl,.int .i64,.int .i64,.int .u64,.int .u64,.int .u64]],[a],[a],[d,c],[a],[a],[a],[a],[a],[a],[a],[a],[.agg [.int .u64,.sl]],[.agg [.int .u64,.sl]],[a],[.agg [.ptr,.int .i64]],[.agg [.ptr,.int .i64]],[e,c,e],[a],[a],[a],[a],[e,c],[a],[d],[b],[b],[b],[b],[b],[b],[b],[b],[b],[b],[.agg [.sl,.sl,.int .i64,.sl,.sl,.int .i64,.sl,.sl,.int .i64,.sl,.sl,.int .i64,.sl,.sl,.int .i64,.sl,.sl,.int .i64,.sl,.sl,.int .i64,.sl,.sl,.int .i64,.sl,.sl,.int .i64,.sl,.sl,.int .i64,.int .i64,.int .i64,.int .i64]],[.agg [.sl,.sl,.int .i64,.sl,.sl,.int .i64,.sl,.sl,.int .i64,.sl,.sl,.int .i64,.sl,.sl,.int .i64,.sl,.sl,.int .i64,.sl,.sl,.int .i64,.sl,.sl,.int .i64,.sl,.sl,.int .i64,.sl,.sl,.int .i64,.int .i64,.int .i64,.int .i64]],[d],[.agg [.int .i64]],[.agg [.int .i64]],[d],[.agg [.sl,.sl,.sl,.sl]],[.agg [.sl,.sl,.sl,.sl]],[a],[a],[a],[a],[d],[b],[.agg [.sl,.sl,.sl,.sl,.sl,.sl,.sl,.sl,.int .i64]],[.agg [.sl,.sl,.sl,.sl,.sl,.sl,.sl,.sl,.int .i64]],[d],[.agg [.sl,.sl]],[.agg [.sl,.sl]],[a],[d],[b],[b],[b],[.agg [.int .i64,.ptr,.ptr,.sl,.sl,.sl,.int .i64,.int .i64,.int .i64,.sl,.int .i64,.int .i64,.int .i64,.int .i64,.int .i64,.int .i64,.int .i64,.int .i64,.int .i64]],[.agg [.int .i64,.ptr,.ptr,.sl,.sl,.sl,.int .i64,.int .i64,.int .i64,.sl,.int .i64,.int .i64,.int .i64,.int .i64,.int .i64,.int .i64,.int .i64,.int .i64,.int .i64]],[a],[c,c,c,c],[a],[c,c],[a],[a],[a],[a],[a],[a],[a],[a],[d],[b],[b],[.agg [.int .i64,.sl,.sl,.sl]],[.agg [.int .i64,.sl,.sl,.sl]],[b],[b],[.agg [.ptr,.ptr,.sl,.sl,.sl]],[.agg [.ptr,.ptr,.sl,.sl,.sl]],[.agg [.ptr,.int .i64,.bool]],[.agg [.ptr,.int .i64,.bool]],[a],[d,c],[a],[a],[a],[b],[a],[a],[a],[a],[e,c],[a],[a],[a],[a],[.agg [.bool,.int .u64]],[.agg [.bool,.int .u64]],[a],[a],[a],[a],[a,c,f],[a],[a],[a],[d],[.agg [.sl,.sl,.sl,.sl]],[.agg [.sl,.sl,.sl,.sl]],[a],[.agg [.int .i64,.int .i64,.sl,.sl]],[.agg [.int .i64,.int .i64,.sl,.sl]],[a],[],[.agg [.int .i64,.sl,.sl]],[.agg [.int .i64,.sl,.sl]],[a],[a],[a],[a],[a],[a],[a],[c,c],[a],[.agg [.int .i64,.int .i64]],[.agg [.int .i64,.int .i64]],[b],[.agg [.int .u64,.sl,.int .i64,.int .i64,.int .i64,.int .i64,.int .i64]],[.agg [.int .u64,.sl,.int .i64,.int .i64,.int .i64,.int .i64,.int .i64]],[d],[d],[a],[.agg [.int .i64,.int .i64]],[.agg [.int .i64,.int .i64]],[e,c,f],[a],[.agg [.int .i64,.int .u64]],[.agg [.int .i64,.int .u64]],[a],[a],[f,c],[a],[c,f],[a],[.agg [.int .u64,.sl,.int .i64,.int .u64,.int .u64]],[.agg [.int .u64,.sl,.int .i64,.int .u64,.int .u64]],[a],[a],[b,c],[a],[a],[a],[a],[a],[a],[a],[c,f,c],[a],[b,c,c],[a],[a],[a],[a],[a],[a],[a],[.leaf (.int .u32)],[a],[a],[a],[a],[c],[c,c],[a],[a],[a],[a],[a],[b],[.agg [.sl,.int .i64]],[.agg [.sl,.int .i64]],[b],[.agg [.sl,.sl]],[.agg [.sl,.sl]],[b],[.agg [.int .i64,.str]],[.agg [.int .i64,.str]],[b],[.agg [.int .i64,.sl]],[.agg [.int .i64,.sl]],[b],[.agg [.int .i64,.int .u64,.sl]],[.agg [.int .i64,.int .u64,.sl]],[b],[.agg [.str,.int .i64,.bool,.int .i64,.int .i64,.int .i64,.int .i64]],[.agg [.str,.int .i64,.bool,.int .i64,.int .i64,.int .i64,.int .i64]],[a],[a],[a],[a],[a],[a],[a],[a],[a],[.agg [.int .u8,.int .u8,.int .u8,.int .u8,.int .u8,.int .u8,.int .u8,.int .u8,.int .u8,.int .u8,.int .u8,.int .u8,.int .u8,.int .u8,.int .u8,.int .u8,.int .u8,.int .u8,.int .u8,.int .u8,.int .u8,.int .u8,.int .u8,.int .u8,.int .u8,.int .u8,.int .u8,.int .u8,.int .u8,.int .u8,.int .u8,.int .u8]],[.agg [.int .u8,.int .u8,.int .u8,.int .u8,.int .u8,.int .u8,.int .u8,.int .u8,.int .u8,.int .u8,.int .u8,.int .u8,.int .u8,.int .u8,.int .u8,.int .u8,.int .u8,.int .u8,.int .u8,.int .u8,.int .u8,.int .u8,.int .u8,.int .u8,.int .u8,.int .u8,.int .u8,.int .u8,.int .u8,.int .u8,.int .u8,.int .u8,.int .u8,.int .u8,.int .u8,.int .u8,.int .u8,.int .u8,.int .u8,.int .u8,.int .u8,.int .u8,.int .u8,.int .u8,.int .u8,.int .u8,.int .u8,.int .u8,.int .u8,.int .u8,.int .u8,.int .u8,.int .u8,.int .u8,.int .u8,.int .u8,.int .u8,.int .u8,.int .u8,.int .u8,.int .u8,.int .u8,.int .u8,.int .u8]],[a],[a],[a],[a],[a],[a],[e],[a],[a],[d],[a],[a],[a],[a],[a],[d],[a],[a],[a],[.agg [.ptr,.ptr,.ptr,.str]],[.agg [.ptr,.ptr,.ptr,.str]],[],[],[],[g],[g],[a],[d],[i],[i],[.agg [.int .u64,.int .u64,.int .u32,.int .u8,.int .u8,.int .u8,.int .u8,.any,.ptr,.int .i32,.int .i32]],[.agg [.int .u64,.int .u64,.int .u32,.int .u8,.int .u8,.int .u8,.int .u8,.any,.ptr,.int .i32,.int .i32]],[b,c],[a],[a]]) (.leaf .any) (.leaf .sl) (.leaf (.int .i64)) (.leaf .ptr) (.leaf (.int .u64)) (.leaf .bool) (.leaf (.int .u8)) (.leaf .str) (.leaf (.int .i32))
def agJ:List Bool:=(fun(a b:Bool)=>[b,b,a,b,b,b,b,b,b,b,b,b,b,b,b,b,b,b,b,b,b,a,a,b,b,a,b,b,b,b,b,b,b,b,b,b,b,b,b,b,b,b,b,b,b,b,a,b,b,b,b,a,b,b,b,b,a,b,b,b,b,b,a,b,b,a,b,b,b,b,b,b,b,b,a,b,b,a,b,b,b,b,b,b,b,a,a,b,b,b,b,a,b,b,b,b,b,b,b,b,b,b,b,b,b,b,b,b,a,b,b,b,b,b,b,b,a,b,b,b,b,a,a,a,b,b,b,b,b,b,b,b,b,b,b,a,a,b,a,b,b,b,b,b,b,a,b,b,b,b,b,b,b,b,b,a,b,b,a,b,a,a,a,b,b,b,b,b,b,b,b,b,b,b,b,a,b,a,b,a,a,a,a,b,b,a,a,b,b,a,b,b,b,a,a,a,b,b,b,a,b,b,b,b,b,b,b,b,a,a,a,a,b,b,b,b,b,b,b,a,a,a,b,b,b,b,b,b,b,b,b,b,b,a,b,b,b,a,b,b,b,b,b,b,b,b,b,b,b,b,b,b,b,b,b,b,b,b,b,b,b,a,b,b,a,b,b,b,b,b,b]) true false
def Bv:List Bool:=(fun(a b:Bool)=>[b,b,a,a,a,a,a,a,a,a,a,a,a,a,a,a,a,a,a,a,a,a,a,a,a,a,a,a,a,a,a,a,a,a,a,a,a,a,a,a,a,a,a,a,a,a,a,a,a,a,a,a,a,a,a,a,a,a,a,a,a,a,a,a,a,a,a,a,a,a,a,a,a,a,a,a,a,a,a,a,a,a,a,a,a,a,a,a,a,a,a,a,a,a,a,a,a,a,a,a,a,a,a,a,a,a,a,a,a,a,a,a,a,b,a,a,a,a,a,a,a,a,a,a,a,a,a,a,a,a,a,a,a,a,a,a,a,a,a,a,a,a,a,a,a,a,a,a,a,a,a,a,a,a,a,a,a,a,a,a,a,a,a,a,a,a,a,a,a,a,a,a,a,a,a,a,a,a,a,a,a,a,a,a,a,a,a,a,a,a,a,a,a,a,a,a,a,a,a,a,a,a,a,a,a,a,a,a,a,a,a,a,a,a,a,a,a,a,a,a,a,a,a,a,a,a,a,a,a,a,a,a,a,a,a,a,a,a,a,a,a,a,a,b,b,b,b,b,b,b,b,b,b,b,b,b,b,b,b,a,a,a,a,a,a,b,b,b,b,b,a]) true false
def auq:List Bool:=(fun(a b:Bool)=>[a,a,b,b,b,b,b,b,b,b,b,b,b,b,b,b,b,b,b,b,b,b,b,b,b,b,b,b,b,b,b,b,b,b,b,b,b,b,b,b,b,b,b,b,b,b,b,b,b,b,b,b,b,b,b,b,b,b,b,b,b,b,b,b,b,b,b,b,b,b,b,b,b,b,b,b,b,b,b,b,b,b,b,b,b,b,b,b,b,b,b,b,b,b,b,b,b,b,b,b,b,b,b,b,b,b,b,b,b,b,b,b,b,a,b,b,b,b,b,b,b,b,b,b,b,b,b,b,b,b,b,b,b,b,b,b,b,b,b,b,b,b,b,b,b,b,b,b,b,b,b,b,b,b,b,b,b,b,b,b,b,b,b,b,b,b,b,b,b,b,b,b,b,b,b,b,b,b,b,b,b,b,b,b,b,b,b,b,b,b,b,b,b,b,b,b,b,b,b,b,b,b,b,b,b,b,b,b,b,b,b,b,b,b,b,b,b,b,b,b,b,b,b,b,b,b,b,b,b,b,b,b,b,b,b,b,b,b,b,b,b,b,b,a,a,a,a,a,a,a,a,a,a,a,a,a,a,a,a,b,b,b,b,b,b,a,a,a,a,a,b]) true false
noncomputable def fN:tD:={tk:=fun t=>tkL.getD t [],rk:=fun f=>rkL.getD f [],Vr:=fun f=>agJ.getD f false,callee:=fun f=>Bv.getD f false,ext:=fun f=>auq.getD f false,rt:=fun t=>rtL.getD t [],Uj:=fun p=>[],GP:=fun m=>if m = "Object" then some (144,136)else if m = "Bytes" then some (144,260)else if m = "Get" then some (144,261)else if m = "Set" then some (144,262)else if m = "SetBytes" then some (144,263)else none}
theorem mixed:Tryz.prog.follows .mixedOrders=true:=by kernel_rfl
noncomputable def Bu(f:Nat):Bool:=match Tryz.prog.funcs[f]? with|some fn=>!(fn.name == "runtime.NumGoroutine")&&fn.body.isSome|none=>false
theorem FQ {f:Nat}(h:Bu f=true):vE Tryz.prog f:=by
 unfold Bu at h
 split at h
 ·rename_i fn hf
  simp only [eD,pQ]at h
  exact M4 hf h.1 h.2
 ·cases h
theorem M3:Bv.length=271:=by kernel_rfl
theorem acK:((List.range 271).all fun f=>!Bv.getD f false||Bu f)=true:=by kernel_rfl
theorem K6(a:OA)(args:Array Value)(w:World):(callMethod (.iface 144 (.pointer a)) "Object" args).run Tryz.prog w=.ok (.enter 136 (#[.pointer a]++args)) w:=by kernel_rfl
theorem Od(a:OA)(args:Array Value)(w:World):(callMethod (.iface 144 (.pointer a)) "Bytes" args).run Tryz.prog w=.ok (.enter 260 (#[.pointer a]++args)) w:=by kernel_rfl
theorem VU(a:OA)(args:Array Value)(w:World):(callMethod (.iface 144 (.pointer a)) "Get" args).run Tryz.prog w=.ok (.enter 261 (#[.pointer a]++args)) w:=by kernel_rfl
theorem VT(a:OA)(args:Array Value)(w:World):(callMethod (.iface 144 (.pointer a)) "Set" args).run Tryz.prog w=.ok (.enter 262 (#[.pointer a]++args)) w:=by kernel_rfl
theorem GO(a:OA)(args:Array Value)(w:World):(callMethod (.iface 144 (.pointer a)) "SetBytes" args).run Tryz.prog w=.ok (.enter 263 (#[.pointer a]++args)) w:=by kernel_rfl
theorem J8(a:Addr)(w:World):(nilAhead (Tryz.prog.types.size+Made.depth) 144 (.pointer (some a)) "Object").run Tryz.prog w=.ok (some false) w:=by kernel_rfl
theorem Nf(a:Addr)(w:World):(nilAhead (Tryz.prog.types.size+Made.depth) 144 (.pointer (some a)) "Bytes").run Tryz.prog w=.ok (some false) w:=by kernel_rfl
theorem TP(a:Addr)(w:World):(nilAhead (Tryz.prog.types.size+Made.depth) 144 (.pointer (some a)) "Get").run Tryz.prog w=.ok (some false) w:=by kernel_rfl
theorem TO(a:Addr)(w:World):(nilAhead (Tryz.prog.types.size+Made.depth) 144 (.pointer (some a)) "Set").run Tryz.prog w=.ok (some false) w:=by kernel_rfl
theorem FZ(a:Addr)(w:World):(nilAhead (Tryz.prog.types.size+Made.depth) 144 (.pointer (some a)) "SetBytes").run Tryz.prog w=.ok (some false) w:=by kernel_rfl
theorem mh:mH Tryz.prog fN:=by
 refine⟨fun f hf=>?_,fun m t f hm a args w=>?_,fun m t f hm a w=>?_⟩
 ·have hf:Bv.getD f false=true:=hf
  by_cases fE:f<271
  ·have:=mg.1 acK f (jQ.2 fE)
   rw [hf]at this
   have hc:Bu f=true:=by simpa using this
   exact FQ hc
  ·rw [bB,bV (bP (Nat.le_of_eq M3:Bv.length≤271) (Nat.le_of_not_lt fE))]at hf
   cases hf
 ·simp only [fN]at hm
  split at hm
  ·rename_i he;subst he;simp only [dx,fP]at hm;obtain⟨rfl,rfl⟩:=hm;exact K6 a args w
  split at hm
  ·rename_i he;subst he;simp only [dx,fP]at hm;obtain⟨rfl,rfl⟩:=hm;exact Od a args w
  split at hm
  ·rename_i he;subst he;simp only [dx,fP]at hm;obtain⟨rfl,rfl⟩:=hm;exact VU a args w
  split at hm
  ·rename_i he;subst he;simp only [dx,fP]at hm;obtain⟨rfl,rfl⟩:=hm;exact VT a args w
  split at hm
  ·rename_i he;subst he;simp only [dx,fP]at hm;obtain⟨rfl,rfl⟩:=hm;exact GO a args w
  cases hm
 ·simp only [fN]at hm
  split at hm
  ·rename_i he;subst he;simp only [dx,fP]at hm;obtain⟨rfl,rfl⟩:=hm;exact J8 a w
  split at hm
  ·rename_i he;subst he;simp only [dx,fP]at hm;obtain⟨rfl,rfl⟩:=hm;exact Nf a w
  split at hm
  ·rename_i he;subst he;simp only [dx,fP]at hm;obtain⟨rfl,rfl⟩:=hm;exact TP a w
  split at hm
  ·rename_i he;subst he;simp only [dx,fP]at hm;obtain⟨rfl,rfl⟩:=hm;exact TO a w
  split at hm
  ·rename_i he;subst he;simp only [dx,fP]at hm;obtain⟨rfl,rfl⟩:=hm;exact FZ a w
  cases hm
theorem iY {f:FuncId}{fn:Func}{lv:Nat→LN}{args:LV}{h:Hp}{R:RP}{X:Prop}(hf:Tryz.prog.funcs[f]?=some fn)(x:X)(hb:fn.body.isSome=true:=by kernel_rfl)(hn:kR (bd fn)=true:=by kernel_rfl) (e:evF Tryz.prog fN lv fn (bd fn) [] args h R=X:=by kernel_rfl):bq Tryz.prog f args.toArray h R:=by
 obtain⟨c,hc⟩:=jE.1 hb
 have hbd:bd fn=c:=by unfold bd;rw [hc];rfl
 rw [hbd]at hn e
 exact wj mixed mh hf hc hn (e▸x)
noncomputable abbrev PG:Program:=Tryz.prog
def V0(m:Nat):LN:=if m=3 then [5,15,16,17]else []
def Xa(J1:Nat→Int→Sl→Int→Int→Hp→Prop)(n1:Nat)(d:Int)(c:Sl)(e b:Int)(g:Nat→Value)(h:Hp)(R:RP):Prop:=bX (decide (b<e)) ((0≤b∧b<(c.n:Int))∧bE c.a fun j=>∃f:Int,cell h (j.add (b.toNat*1))=some (vu f)∧bq PG 116 #[vu (yX .u64 d f)] h fun r k=>∃i:Int,r=vu i∧∃m,m<n1∧J1 m i c e (wrap .i64 (b+(1:Int))) k) (R (vu d:Value) h)
abbrev anY(R:RP)(a:Int)(aq0:OA)(aqY aqZ:Nat)(b c:Int)(d:Hp):Prop:=dO (kJ PG fN V0 (sub [1,1,0,1,0,0] (bd Tryz.f68))) (dW PG fN V0 [1,1,0,1,0] (bd Tryz.f68) [] (eJ PG Tryz.f68 [] R)) [(5,vu a),(15,.slice aq0 aqY aqZ),(16,vi b),(17,vi c)] 27 d
theorem OT {R:RP}{s5:Int}{qS:Sl}{wJ Ew:Int}{h0:Hp}(J:Nat→Int→Sl→Int→Int→Hp→Prop)(n0:Nat)(hi:J n0 s5 qS wJ Ew h0)(hr:∀n s5 qS wJ Ew g h,J n s5 qS wJ Ew h→Xa  J n s5 qS wJ Ew g h R):anY R s5 qS.a qS.n qS.c wJ Ew h0:=iz (l:=[(5,.i .u64),(15,.l),(16,.i .i64),(17,.i .i64)]) (J:=J) (n0:=n0) (s5,qS,wJ,Ew,()) hi (fun n s5 qS wJ Ew g h=>Xa  J n s5 qS wJ Ew g h R) hr
def anX(f:Int)(d:Sl)(h:Hp)(R:RP):Prop:=bq PG 116 #[vu (wrap .u64 (f+(wrap .u64 (d.n:Int))))] h fun r g=>∃e:Int,r=vu e∧bq PG 117 #[.slice d.a d.n d.c] g fun r i=>∃b:Sl,r=.slice b.a b.n b.c∧dO (kJ PG fN V0 (sub [1,1,0,1,0,0] (bd Tryz.f68))) (dW PG fN V0 [1,1,0,1,0] (bd Tryz.f68) [] (eJ PG Tryz.f68 [] R)) [(5,vu e),(15,.slice b.a b.n b.c),(16,vi (b.n:Int)),(17,vi 0)] 27 i
theorem abX {a0:Int}{a1:Sl}{h:Hp}{R:RP}(hF:anX a0 a1 h R):bq PG 68 #[vu a0,vl a1] h R:=iY (lv:=V0) Tryz.func68 hF
def anR(b:OA)(h:Hp)(R:RP):Prop:=bE b fun c=>∃a:Int,cell h c=some (vi a)∧R (vi a:Value) h
theorem abQ {a0:OA}{h:Hp}{R:RP}(hF:anR a0 h R):bq PG 85 #[vp a0] h R:=iY (lv:=kw) Tryz.func85 hF
def anQ(d:OA)(h:Hp)(R:RP):Prop:=bE d fun e=>∃b:Sl,cell h (e.add 1)=some (.slice b.a b.n b.c)∧R ((vi (b.n:Int):Value)) h
theorem abP {a0:OA}{h:Hp}{R:RP}(hF:anQ a0 h R):bq PG 86 #[vp a0] h R:=iY (lv:=kw) Tryz.func86 hF
def JI  (a:Int) (f:Bool) (h:Hp) (R:RP):Prop:=bX f (R (vt #[vp none,vi 20]:Value) h) (((0≤(1:Int)∧(1:Int)≤(1:Int))∧(1:Int)<2 ^ 62∧(8:Nat)*(1:Int)≤2 ^ 48∧gi (h.push (.cells (ja #[vu 0] ((1:Int).toNat*1)) 27)) fun b=>(0≤(1:Int)∧(1:Int)≤(1:Int))∧(1:Int)<2 ^ 62∧(8:Nat)*(1:Int)≤2 ^ 48∧gi (b.push (.cells (ja #[vu 0] ((1:Int).toNat*1)) 27)) fun c=>gi (c.push (.cells #[vi a,.slice (some (nb h)) ((1:Int).toNat) ((1:Int).toNat),.slice (some (nb b)) ((1:Int).toNat) ((1:Int).toNat)] 207)) fun g=>R ((vt #[vp (some (nb c)),vi 0]:Value)) g)∧((0≤(1:Int)∧(1:Int)≤(1:Int))∧(1:Int)<2 ^ 62∧(8:Nat)*(1:Int)≤2 ^ 48∧gi (h.push (.cells (ja #[vu 0] ((1:Int).toNat*1)) 27)) fun d=>(0≤(1:Int)∧(1:Int)≤(1:Int))∧(1:Int)<2 ^ 62∧(8:Nat)*(1:Int)≤2 ^ 48∧gi (d.push (.cells (ja #[vu 0] ((1:Int).toNat*1)) 27)) fun e=>gi (e.push (.cells #[vi a,.slice (some (nb d)) ((1:Int).toNat) ((1:Int).toNat),.slice (some (nb h)) ((1:Int).toNat) ((1:Int).toNat)] 207)) fun i=>R ((vt #[vp (some (nb e)),vi 0]:Value)) i))
def afx(a:Int)(h:Hp)(R:RP):Prop:=bX (decide (a<(1:Int))) (JI  a true h R) (JI  a (decide (a>(1048576:Int))) h R)
theorem YI {a0:Int}{h:Hp}{R:RP}(hF:afx a0 h R):bq PG 105 #[vi a0] h R:=iY (lv:=kw) Tryz.func105 hF
def afp(a:Int)(h:Hp)(R:RP):Prop:=0≤(32:Int)∧0≤(29:Int)∧0≤(32:Int)∧R ((vu (yX .u64 (wrap .u64 ((yX .u64 (wrap .u64 ((yX .u64 a (Int.fdiv a (2 ^ (min (32:Int).toNat (IntKind.bits .u64)))))*(15466983567672013453:Int))) (Int.fdiv (wrap .u64 ((yX .u64 a (Int.fdiv a (2 ^ (min (32:Int).toNat (IntKind.bits .u64)))))*(15466983567672013453:Int))) (2 ^ (min (29:Int).toNat (IntKind.bits .u64)))))*(12920666929402377605:Int))) (Int.fdiv (wrap .u64 ((yX .u64 (wrap .u64 ((yX .u64 a (Int.fdiv a (2 ^ (min (32:Int).toNat (IntKind.bits .u64)))))*(15466983567672013453:Int))) (Int.fdiv (wrap .u64 ((yX .u64 a (Int.fdiv a (2 ^ (min (32:Int).toNat (IntKind.bits .u64)))))*(15466983567672013453:Int))) (2 ^ (min (29:Int).toNat (IntKind.bits .u64)))))*(12920666929402377605:Int))) (2 ^ (min (32:Int).toNat (IntKind.bits .u64))))):Value)) h
theorem Yx {a0:Int}{h:Hp}{R:RP}(hF:afp a0 h R):bq PG 116 #[vu a0] h R:=iY (lv:=kw) Tryz.func116 hF
def E2(m:Nat):LN:=if m=3 then [3,10,11,12]else []
def Pq(J1:Nat→Sl→Sl→Int→Int→Hp→Prop)(n1:Nat)(d e:Sl)(f b:Int)(g:Nat→Value)(h:Hp)(R:RP):Prop:=bX (decide (b<f)) ((0≤b∧b<(e.n:Int))∧bE e.a fun l=>∃i:Int,cell h (l.add (b.toNat*1))=some (.int .u8 i)∧(8:Int)≠0∧(0≤(wrap .i64 (Int.tdiv b (8:Int)))∧(wrap .i64 (Int.tdiv b (8:Int)))<(d.n:Int))∧bE d.a fun o=>∃j:Int,cell h (o.add ((wrap .i64 (Int.tdiv b (8:Int))).toNat*1))=some (vu j)∧(8:Int)≠0∧0≤(wrap .i64 ((8:Int)*(Int.tmod b (8:Int))))∧(0≤(wrap .i64 (Int.tdiv b (8:Int)))∧(wrap .i64 (Int.tdiv b (8:Int)))<(d.n:Int))∧bE d.a fun k=>gZ h (k.add ((wrap .i64 (Int.tdiv b (8:Int))).toNat*1))∧gi (fy h (k.add ((wrap .i64 (Int.tdiv b (8:Int))).toNat*1)) (vu (Oa .u64 j (wrap .u64 ((wrap .u64 i)*2 ^ (min (wrap .i64 ((8:Int)*(Int.tmod b (8:Int)))).toNat (IntKind.bits .u64))))))) fun p=>∃m,m<n1∧J1 m d e f (wrap .i64 (b+(1:Int))) p) (R (.slice d.a d.n d.c:Value) h)
abbrev aiI(R:RP)(s3a:OA)(s3n s3c:Nat)(agx:OA)(agv agw:Nat)(a b:Int)(c:Hp):Prop:=dO (kJ PG fN E2 (sub [1,1,0,1,0,0] (bd Tryz.f117))) (dW PG fN E2 [1,1,0,1,0] (bd Tryz.f117) [] (eJ PG Tryz.f117 [] R)) [(3,.slice s3a s3n s3c),(10,.slice agx agv agw),(11,vi a),(12,vi b)] 32 c
theorem MG {R:RP}{s3 oh:Sl}{pc rO:Int}{h0:Hp}(J:Nat→Sl→Sl→Int→Int→Hp→Prop)(n0:Nat)(hi:J n0 s3 oh pc rO h0)(hr:∀n s3 oh pc rO g h,J n s3 oh pc rO h→Pq  J n s3 oh pc rO g h R):aiI R s3.a s3.n s3.c oh.a oh.n oh.c pc rO h0:=iz (l:=[(3,.l),(10,.l),(11,.i .i64),(12,.i .i64)]) (J:=J) (n0:=n0) (s3,oh,pc,rO,()) hi (fun n s3 oh pc rO g h=>Pq  J n s3 oh pc rO g h R) hr
def afo(d:Sl)(h:Hp)(R:RP):Prop:=bq PG 161 #[vi (d.n:Int)] h fun r e=>∃b:Int,r=vi b∧(0≤b∧b≤b)∧b<2 ^ 62∧(8:Nat)*b≤2 ^ 48∧gi (e.push (.cells (ja #[vu 0] (b.toNat*1)) 27)) fun f=>dO (kJ PG fN E2 (sub [1,1,0,1,0,0] (bd Tryz.f117))) (dW PG fN E2 [1,1,0,1,0] (bd Tryz.f117) [] (eJ PG Tryz.f117 [] R)) [(3,.slice (some (nb e)) b.toNat b.toNat),(10,.slice d.a d.n d.c),(11,vi (d.n:Int)),(12,vi 0)] 32 f
theorem Yw {a0:Sl}{h:Hp}{R:RP}(hF:afo a0 h R):bq PG 117 #[vl a0] h R:=iY (lv:=E2) Tryz.func117 hF
def afn(a:OA)(h:Hp)(R:RP):Prop:=(0≤(1:Int)∧(1:Int)≤(1:Int))∧(1:Int)<2 ^ 62∧(8:Nat)*(1:Int)≤2 ^ 48∧gi (h.push (.cells (ja #[vu 0] ((1:Int).toNat*1)) 27)) fun c=>bE a fun d=>St c (d.add 1) (.slice (some (nb h)) ((1:Int).toNat) ((1:Int).toNat)) fun b=>(0≤(1:Int)∧(1:Int)≤(1:Int))∧(1:Int)<2 ^ 62∧(8:Nat)*(1:Int)≤2 ^ 48∧gi (b.push (.cells (ja #[vu 0] ((1:Int).toNat*1)) 27)) fun e=>bE a fun f=>St e (f.add 2) (.slice (some (nb b)) ((1:Int).toNat) ((1:Int).toNat)) fun g=>R (vt #[]:Value) g
theorem Yv {a0:OA}{h:Hp}{R:RP}(hF:afn a0 h R):bq PG 118 #[vp a0] h R:=iY (lv:=kw) Tryz.func118 hF
def afi(g:OA)(b:Int)(h:Hp)(R:RP):Prop:=bq PG 179 #[vp g,vi b] h fun r d=>∃i:Bool,r=vb i∧bX (!i) (R (vt #[vi 0,vi 0,vi 0,vi 23]:Value) d) (bE g fun q=>∃e:Sl,cell d (q.add 1)=some (.slice e.a e.n e.c)∧(0≤b∧b<(e.n:Int))∧bE e.a fun s=>∃j:Int,cell d (s.add (b.toNat*1))=some (vu j)∧bX ((ot .u64 j (9223372036854775808:Int)) != (0:Int)) (R (vt #[vi 0,vi 0,vi 0,vi 26]:Value) d) (bE g fun t=>∃f:Sl,cell d (t.add 1)=some (.slice f.a f.n f.c)∧(0≤b∧b<(f.n:Int))∧bE f.a fun u=>∃k:Int,cell d (u.add (b.toNat*1))=some (vu k)∧bq PG 180 #[vu k] d fun r v=>∃l:Int,∃m:Int,∃o:Int,∃p:Int,r=vt #[vi l,vi m,vi o,vi p]∧R (vt #[vi l,vi m,vi o,vi p]:Value) v))
theorem Yq {a0:OA}{a1:Int}{h:Hp}{R:RP}(hF:afi a0 a1 h R):bq PG 136 #[vp a0,vi a1] h R:=iY (lv:=kw) Tryz.func136 hF
def JF  (l m:OA) (b v w:Int) (y:Bool) (h:Hp) (R:RP):Prop:=bX y (R (vt #[vi v,vi w]:Value) h) (bq PG 182 #[vp m,vi b] h fun r g=>∃d:Sl,∃z:Int,∃p:Int,r=vt #[.slice d.a d.n d.c,vi z,vi p]∧bX (p != (0:Int)) (R (vt #[vi 0,vi p]:Value) g) (bE l fun A=>∃s:Int,cell g A=some (vi s)∧bE l fun B=>∃o:Sl,cell g (B.add 1)=some (.slice o.a o.n o.c)∧bX (decide ((wrap .i64 ((1:Int)+(d.n:Int)))>(wrap .i64 (s-(o.n:Int))))) (R (vt #[vi 0,vi 22]:Value) g) (bE m fun C=>∃j:Sl,cell g (C.add 1)=some (.slice j.a j.n j.c)∧(0≤b∧b<(j.n:Int))∧bE j.a fun D=>∃t:Int,cell g (D.add (b.toNat*1))=some (vu t)∧bq PG 183 #[vp l,vu t,vi (wrap .i64 ((1:Int)+(d.n:Int)))] g fun r q=>∃e:Int,r=vi e∧bE l fun E=>∃f:Sl,cell q (E.add 1)=some (.slice f.a f.n f.c)∧(0≤(wrap .i64 (e+(1:Int)))∧(wrap .i64 (e+(1:Int)))≤(f.n:Int))∧bE m fun F=>∃i:Sl,cell q (F.add 1)=some (.slice i.a i.n i.c)∧(0≤(wrap .i64 (b+(wrap .i64 ((1:Int)+(d.n:Int)))))∧(wrap .i64 (b+(wrap .i64 ((1:Int)+(d.n:Int)))))≤(i.c:Int))∧(0≤(wrap .i64 (b+(1:Int)))∧(wrap .i64 (b+(1:Int)))≤(wrap .i64 (b+(wrap .i64 ((1:Int)+(d.n:Int))))))∧RU 1 (if f.c=(wrap .i64 (e+(1:Int))).toNat then f.a else Option.map (fun x=>x.add ((wrap .i64 (e+(1:Int))).toNat*1)) f.a) (f.n-(wrap .i64 (e+(1:Int))).toNat) (if i.c=(wrap .i64 (b+(1:Int))).toNat then i.a else Option.map (fun x=>x.add ((wrap .i64 (b+(1:Int))).toNat*1)) i.a) ((wrap .i64 (b+(wrap .i64 ((1:Int)+(d.n:Int))))).toNat-(wrap .i64 (b+(1:Int))).toNat) q fun rk u=>bE m fun G=>∃k:Sl,cell u (G.add 1)=some (.slice k.a k.n k.c)∧(0≤b∧b<(k.n:Int))∧bE k.a fun H=>St u (H.add (b.toNat*1)) (vu (Oa .u64 (9223372036854775808:Int) (wrap .u64 e))) fun I=>R (vt #[vi e,vi 0]:Value) I)))
def Yp(e b:OA)(c:Int)(h:Hp)(R:RP):Prop:=bq PG 181 #[vp b,vi c] h fun r f=>∃d:Int,∃g:Bool,∃a:Int,r=vt #[vi d,vb g,vi a]∧bX (a != (0:Int)) (JF  e b c d a true f R) (JF  e b c d a g f R)
theorem MD {a0 a1:OA}{a2:Int}{h:Hp}{R:RP}(hF:Yp a0 a1 a2 h R):bq PG 137 #[vp a0,vp a1,vi a2] h R:=iY (lv:=kw) Tryz.func137 hF
def afe(e:OA)(m f g:Int)(h:Hp)(R:RP):Prop:=bq PG 185 #[vi m,vi f,vi g] h fun r b=>∃i:Int,∃j:Int,r=vt #[vu i,vi j]∧bX (j != (0:Int)) (R (vt #[vi 0,vi 21]:Value) b) (bE e fun o=>∃k:Int,cell b o=some (vi k)∧bE e fun p=>∃d:Sl,cell b (p.add 1)=some (.slice d.a d.n d.c)∧bX (decide ((wrap .i64 ((wrap .i64 ((1:Int)+f))+g))>(wrap .i64 (k-(d.n:Int))))) (R (vt #[vi 0,vi 22]:Value) b) (bq PG 183 #[vp e,vu i,vi (wrap .i64 ((wrap .i64 ((1:Int)+f))+g))] b fun r q=>∃l:Int,r=vi l∧R (vt #[vi l,vi 0]:Value) q))
theorem Yl {a0:OA}{a1 a2 a3:Int}{h:Hp}{R:RP}(hF:afe a0 a1 a2 a3 h R):bq PG 141 #[vp a0,vi a1,vi a2,vi a3] h R:=iY (lv:=kw) Tryz.func141 hF
def X0(a:Int)(h:Hp)(R:RP):Prop:=bX (decide (a<(1:Int))) (R (vi 0:Value) h) ((8:Int)≠0∧R ((vi (wrap .i64 ((wrap .i64 (Int.tdiv (wrap .i64 (a-(1:Int))) (8:Int)))+(1:Int))):Value)) h)
theorem Mr {a0:Int}{h:Hp}{R:RP}(hF:X0 a0 h R):bq PG 161 #[vi a0] h R:=iY (lv:=kw) Tryz.func161 hF
def aeY(f:OA)(b:Int)(h:Hp)(R:RP):Prop:=bX (decide (b>(0:Int))) (bE f fun i=>∃e:Sl,cell h (i.add 1)=some (.slice e.a e.n e.c)∧bX (decide (b<(e.n:Int))) (bE f fun j=>∃d:Sl,cell h (j.add 2)=some (.slice d.a d.n d.c)∧(64:Int)≠0∧(0≤(wrap .i64 (Int.tdiv b (64:Int)))∧(wrap .i64 (Int.tdiv b (64:Int)))<(d.n:Int))∧bE d.a fun k=>∃g:Int,cell h (k.add ((wrap .i64 (Int.tdiv b (64:Int))).toNat*1))=some (vu g)∧(64:Int)≠0∧0≤(Int.tmod b (64:Int))∧R ((vb ((ot .u64 (Int.fdiv g (2 ^ (min (Int.tmod b (64:Int)).toNat (IntKind.bits .u64)))) (1:Int))==(1:Int)):Value)) h) (R (vb false:Value) h)) (R (vb false:Value) h)
theorem XZ {a0:OA}{a1:Int}{h:Hp}{R:RP}(hF:aeY a0 a1 h R):bq PG 179 #[vp a0,vi a1] h R:=iY (lv:=kw) Tryz.func179 hF
def Fy  (a b c:Int) (d:Bool) (h:Hp) (R:RP):Prop:=bX d (R (vt #[vi 0,vi 0,vi 0,vi 10]:Value) h) (R (vt #[vi a,vi b,vi c,vi 0]:Value) h)
def aeX(a:Int)(h:Hp)(R:RP):Prop:=0≤(8:Int)∧0≤(32:Int)∧0≤(56:Int)∧bX ((Int.fdiv a (2 ^ (min (56:Int).toNat (IntKind.bits .u64)))) != (0:Int)) (Fy  (wrap .i64 (ot .u64 a (255:Int))) (wrap .i64 (ot .u64 (Int.fdiv a (2 ^ (min (8:Int).toNat (IntKind.bits .u64)))) (16777215:Int))) (wrap .i64 (ot .u64 (Int.fdiv a (2 ^ (min (32:Int).toNat (IntKind.bits .u64)))) (16777215:Int))) true h R) (bX ((wrap .i64 (ot .u64 a (255:Int)))==(0:Int)) (Fy  (wrap .i64 (ot .u64 a (255:Int))) (wrap .i64 (ot .u64 (Int.fdiv a (2 ^ (min (8:Int).toNat (IntKind.bits .u64)))) (16777215:Int))) (wrap .i64 (ot .u64 (Int.fdiv a (2 ^ (min (32:Int).toNat (IntKind.bits .u64)))) (16777215:Int))) true h R) (bX (decide ((wrap .i64 (ot .u64 (Int.fdiv a (2 ^ (min (8:Int).toNat (IntKind.bits .u64)))) (16777215:Int)))>(1048576:Int))) (Fy  (wrap .i64 (ot .u64 a (255:Int))) (wrap .i64 (ot .u64 (Int.fdiv a (2 ^ (min (8:Int).toNat (IntKind.bits .u64)))) (16777215:Int))) (wrap .i64 (ot .u64 (Int.fdiv a (2 ^ (min (32:Int).toNat (IntKind.bits .u64)))) (16777215:Int))) true h R) (Fy  (wrap .i64 (ot .u64 a (255:Int))) (wrap .i64 (ot .u64 (Int.fdiv a (2 ^ (min (8:Int).toNat (IntKind.bits .u64)))) (16777215:Int))) (wrap .i64 (ot .u64 (Int.fdiv a (2 ^ (min (32:Int).toNat (IntKind.bits .u64)))) (16777215:Int))) (decide ((wrap .i64 (ot .u64 (Int.fdiv a (2 ^ (min (32:Int).toNat (IntKind.bits .u64)))) (16777215:Int)))>(1048576:Int))) h R)))
theorem XY {a0:Int}{h:Hp}{R:RP}(hF:aeX a0 h R):bq PG 180 #[vu a0] h R:=iY (lv:=kw) Tryz.func180 hF
def aeW(g:OA)(b:Int)(h:Hp)(R:RP):Prop:=bq PG 179 #[vp g,vi b] h fun r d=>∃i:Bool,r=vb i∧bX (!i) (R (vt #[vi 0,vb false,vi 23]:Value) d) (bE g fun l=>∃e:Sl,cell d (l.add 1)=some (.slice e.a e.n e.c)∧(0≤b∧b<(e.n:Int))∧bE e.a fun m=>∃j:Int,cell d (m.add (b.toNat*1))=some (vu j)∧bX ((ot .u64 j (9223372036854775808:Int))==(0:Int)) (R (vt #[vi 0,vb false,vi 0]:Value) d) (bE g fun o=>∃f:Sl,cell d (o.add 1)=some (.slice f.a f.n f.c)∧(0≤b∧b<(f.n:Int))∧bE f.a fun p=>∃k:Int,cell d (p.add (b.toNat*1))=some (vu k)∧R ((vt #[vi (wrap .i64 (jr .u64 k (9223372036854775808:Int))),vb true,vi 0]:Value)) d))
theorem XX {a0:OA}{a1:Int}{h:Hp}{R:RP}(hF:aeW a0 a1 h R):bq PG 181 #[vp a0,vi a1] h R:=iY (lv:=kw) Tryz.func181 hF
def aeV(j:OA)(b:Int)(h:Hp)(R:RP):Prop:=bq PG 136 #[vp j,vi b] h fun r g=>∃k:Int,∃d:Int,∃e:Int,∃i:Int,r=vt #[vi k,vi d,vi e,vi i]∧bX (i != (0:Int)) (R (vt #[.slice none 0 0,vi 0,vi i]:Value) g) (bE j fun l=>∃f:Sl,cell g (l.add 1)=some (.slice f.a f.n f.c)∧(0≤(wrap .i64 ((wrap .i64 ((wrap .i64 (b+(1:Int)))+d))+e))∧(wrap .i64 ((wrap .i64 ((wrap .i64 (b+(1:Int)))+d))+e))≤(f.c:Int))∧(0≤(wrap .i64 ((wrap .i64 ((wrap .i64 (b+(1:Int)))+d))+e))∧(wrap .i64 ((wrap .i64 ((wrap .i64 (b+(1:Int)))+d))+e))≤(wrap .i64 ((wrap .i64 ((wrap .i64 (b+(1:Int)))+d))+e)))∧(0≤(wrap .i64 (b+(1:Int)))∧(wrap .i64 (b+(1:Int)))≤(wrap .i64 ((wrap .i64 ((wrap .i64 (b+(1:Int)))+d))+e)))∧R ((vt #[.slice (if(wrap .i64 ((wrap .i64 ((wrap .i64 (b+(1:Int)))+d))+e)).toNat=(wrap .i64 (b+(1:Int))).toNat then f.a else Option.map (fun x=>x.add ((wrap .i64 (b+(1:Int))).toNat*1)) f.a) ((wrap .i64 ((wrap .i64 ((wrap .i64 (b+(1:Int)))+d))+e)).toNat-(wrap .i64 (b+(1:Int))).toNat) ((wrap .i64 ((wrap .i64 ((wrap .i64 (b+(1:Int)))+d))+e)).toNat-(wrap .i64 (b+(1:Int))).toNat),vi d,vi 0]:Value)) g)
theorem XW {a0:OA}{a1:Int}{h:Hp}{R:RP}(hF:aeV a0 a1 h R):bq PG 182 #[vp a0,vi a1] h R:=iY (lv:=kw) Tryz.func182 hF
def Lb(m:Nat):LN:=if m=4 then [0,7]else []
def Pa(J1:Nat→OA→Int→Hp→Prop)(n1:Nat)(e:OA)(b:Int)(g:Nat→Value)(h:Hp)(R:RP):Prop:=bE e fun o=>∃i:Sl,cell h (o.add 2)=some (.slice i.a i.n i.c)∧bE e fun p=>∃j:Sl,cell h (p.add 1)=some (.slice j.a j.n j.c)∧bX (decide ((wrap .i64 ((i.n:Int)*(64:Int)))<(j.n:Int))) (bE e fun q=>∃f:Sl,cell h (q.add 2)=some (.slice f.a f.n f.c)∧gi (h.push (.cells #[vu 0] 27)) fun r=>im 27 1 8 #[vu 0] f.a f.n f.c (some (nb h)) 1 r fun s t u v=>bE e fun w=>St v (w.add 2) (.slice s t u) fun x=>∃m,m<n1∧J1 m e b x) (bE e fun y=>∃d:Sl,cell h (y.add 2)=some (.slice d.a d.n d.c)∧(64:Int)≠0∧(0≤(wrap .i64 (Int.tdiv b (64:Int)))∧(wrap .i64 (Int.tdiv b (64:Int)))<(d.n:Int))∧bE d.a fun z=>∃k:Int,cell h (z.add ((wrap .i64 (Int.tdiv b (64:Int))).toNat*1))=some (vu k)∧(64:Int)≠0∧0≤(Int.tmod b (64:Int))∧(0≤(wrap .i64 (Int.tdiv b (64:Int)))∧(wrap .i64 (Int.tdiv b (64:Int)))<(d.n:Int))∧bE d.a fun l=>gZ h (l.add ((wrap .i64 (Int.tdiv b (64:Int))).toNat*1))∧gi (fy h (l.add ((wrap .i64 (Int.tdiv b (64:Int))).toNat*1)) (vu (Oa .u64 k (wrap .u64 ((1:Int)*2 ^ (min (Int.tmod b (64:Int)).toNat (IntKind.bits .u64))))))) fun A=>R (vi b:Value) A)
abbrev aiy(R:RP)(a:OA)(b:Int)(c:Hp):Prop:=dO (kJ PG fN Lb (sub [1,1,1,1,0,0,0] (bd Tryz.f183))) (dW PG fN Lb [1,1,1,1,0,0] (bd Tryz.f183) [] (eJ PG Tryz.f183 [] R)) [(0,vp a),(7,vi b)] 64 c
theorem Mq {R:RP}{s0:OA}{s7:Int}{h0:Hp}(J:Nat→OA→Int→Hp→Prop)(n0:Nat)(hi:J n0 s0 s7 h0)(hr:∀n s0 s7 g h,J n s0 s7 h→Pa  J n s0 s7 g h R):aiy R s0 s7 h0:=iz (l:=[(0,.p),(7,.i .i64)]) (J:=J) (n0:=n0) (s0,s7,()) hi (fun n s0 s7 g h=>Pa  J n s0 s7 g h R) hr
def aeU(e:OA)(j k:Int)(h:Hp)(R:RP):Prop:=bE e fun l=>∃b:Sl,cell h (l.add 1)=some (.slice b.a b.n b.c)∧bE e fun m=>∃d:Sl,cell h (m.add 1)=some (.slice d.a d.n d.c)∧au1 27 1 8 #[vu 0] d.a d.n d.c k h fun o p q r=>bE e fun s=>St r (s.add 1) (.slice o p q) fun g=>bE e fun t=>∃f:Sl,cell g (t.add 1)=some (.slice f.a f.n f.c)∧(0≤(b.n:Int)∧(b.n:Int)<(f.n:Int))∧bE f.a fun i=>gZ g (i.add ((b.n:Int).toNat*1))∧gi (fy g (i.add ((b.n:Int).toNat*1)) (vu j)) fun u=>dO (kJ PG fN Lb (sub [1,1,1,1,0,0,0] (bd Tryz.f183))) (dW PG fN Lb [1,1,1,1,0,0] (bd Tryz.f183) [] (eJ PG Tryz.f183 [] R)) [(0,vp e),(7,vi (b.n:Int))] 64 u
theorem XV {a0:OA}{a1 a2:Int}{h:Hp}{R:RP}(hF:aeU a0 a1 a2 h R):bq PG 183 #[vp a0,vu a1,vi a2] h R:=iY (lv:=Lb) Tryz.func183 hF
def xW  (a b c:Int) (d:Bool) (h:Hp) (R:RP):Prop:=bX d (R (vt #[vu 0,vi 10]:Value) h) (0≤(0:Int)∧0≤(8:Int)∧0≤(32:Int)∧R ((vt #[vu (Oa .u64 (Oa .u64 (wrap .u64 ((wrap .u64 a)*2 ^ (min (0:Int).toNat (IntKind.bits .u64)))) (wrap .u64 ((wrap .u64 b)*2 ^ (min (8:Int).toNat (IntKind.bits .u64))))) (wrap .u64 ((wrap .u64 c)*2 ^ (min (32:Int).toNat (IntKind.bits .u64))))),vi 0]:Value)) h)
def aeS(a b c:Int)(h:Hp)(R:RP):Prop:=bX (decide (a<(1:Int))) (xW  a b c true h R) (bX (decide (a>(255:Int))) (xW  a b c true h R) (bX (decide (b<(0:Int))) (xW  a b c true h R) (bX (decide (b>(1048576:Int))) (xW  a b c true h R) (bX (decide (c<(0:Int))) (xW  a b c true h R) (xW  a b c (decide (c>(1048576:Int))) h R)))))
theorem XT {a0 a1 a2:Int}{h:Hp}{R:RP}(hF:aeS a0 a1 a2 h R):bq PG 185 #[vi a0,vi a1,vi a2] h R:=iY (lv:=kw) Tryz.func185 hF
def K8(m:Nat):LN:=if m=6 then [2,10,12,29,30]else []
def O3(J1:Nat→Int→Sl→Sl→Int→Int→Hp→Prop)(n1:Nat)(d:Int)(f e:Sl)(i b:Int)(g:Nat→Value)(h:Hp)(R:RP):Prop:=bX (decide (b<i)) ((8:Int)≠0∧(0≤(wrap .i64 (Int.tdiv (wrap .i64 (d+b)) (8:Int)))∧(wrap .i64 (Int.tdiv (wrap .i64 (d+b)) (8:Int)))<(f.n:Int))∧bE f.a fun l=>∃j:Int,cell h (l.add ((wrap .i64 (Int.tdiv (wrap .i64 (d+b)) (8:Int))).toNat*1))=some (vu j)∧(8:Int)≠0∧0≤(wrap .i64 ((Int.tmod (wrap .i64 (d+b)) (8:Int))*(8:Int)))∧(0≤b∧b<(e.n:Int))∧bE e.a fun k=>gZ h (k.add (b.toNat*1))∧gi (fy h (k.add (b.toNat*1)) (.int .u8 (wrap .u8 (Int.fdiv j (2 ^ (min (wrap .i64 ((Int.tmod (wrap .i64 (d+b)) (8:Int))*(8:Int))).toNat (IntKind.bits .u64))))))) fun o=>∃m,m<n1∧J1 m d f e i (wrap .i64 (b+(1:Int))) o) (R (vt #[.slice e.a e.n e.c,vi 0]:Value) h)
abbrev ait(R:RP)(a:Int)(agx:OA)(agv agw:Nat)(aq9:OA)(aq7 aq8:Nat)(b c:Int)(d:Hp):Prop:=dO (kJ PG fN K8 (sub [1,1,1,1,0,1,0,0] (bd Tryz.f260))) (dW PG fN K8 [1,1,1,1,0,1,0] (bd Tryz.f260) [] (eJ PG Tryz.f260 [] R)) [(2,vi a),(10,.slice agx agv agw),(12,.slice aq9 aq7 aq8),(29,vi b),(30,vi c)] 51 d
theorem Mj {R:RP}{s2:Int}{oh rO:Sl}{xy Eu:Int}{h0:Hp}(J:Nat→Int→Sl→Sl→Int→Int→Hp→Prop)(n0:Nat)(hi:J n0 s2 oh rO xy Eu h0)(hr:∀n s2 oh rO xy Eu g h,J n s2 oh rO xy Eu h→O3  J n s2 oh rO xy Eu g h R):ait R s2 oh.a oh.n oh.c rO.a rO.n rO.c xy Eu h0:=iz (l:=[(2,.i .i64),(10,.l),(12,.l),(29,.i .i64),(30,.i .i64)]) (J:=J) (n0:=n0) (s2,oh,rO,xy,Eu,()) hi (fun n s2 oh rO xy Eu g h=>O3  J n s2 oh rO xy Eu g h R) hr
def aey(i:OA)(j g b:Int)(h:Hp)(R:RP):Prop:=bq PG 264 #[vp i,vi j,vi g,vi b] h fun r e=>∃d:Sl,∃f:Int,r=vt #[.slice d.a d.n d.c,vi f]∧bX (f != (0:Int)) (R (vt #[.slice none 0 0,vi f]:Value) e) ((0≤b∧b≤b)∧b<2 ^ 62∧(1:Nat)*b≤2 ^ 48∧gi (e.push (.cells (ja #[.int .u8 0] (b.toNat*1)) 5)) fun k=>dO (kJ PG fN K8 (sub [1,1,1,1,0,1,0,0] (bd Tryz.f260))) (dW PG fN K8 [1,1,1,1,0,1,0] (bd Tryz.f260) [] (eJ PG Tryz.f260 [] R)) [(2,vi g),(10,.slice d.a d.n d.c),(12,.slice (some (nb e)) b.toNat b.toNat),(29,vi (b.toNat:Int)),(30,vi 0)] 51 k)
theorem Xx {a0:OA}{a1 a2 a3:Int}{h:Hp}{R:RP}(hF:aey a0 a1 a2 a3 h R):bq PG 260 #[vp a0,vi a1,vi a2,vi a3] h R:=iY (lv:=K8) Tryz.func260 hF
def O2  (b:Int) (c:Sl) (e:Bool) (h:Hp) (R:RP):Prop:=bX e (R (vt #[vu 0,vi 24]:Value) h) ((0≤b∧b<(c.n:Int))∧bE c.a fun f=>∃d:Int,cell h (f.add (b.toNat*1))=some (vu d)∧R (vt #[vu d,vi 0]:Value) h)
def aex(g:OA)(i d:Int)(h:Hp)(R:RP):Prop:=bq PG 182 #[vp g,vi i] h fun r e=>∃b:Sl,∃j:Int,∃f:Int,r=vt #[.slice b.a b.n b.c,vi j,vi f]∧bX (f != (0:Int)) (R (vt #[vu 0,vi f]:Value) e) (bX (decide (d<(0:Int))) (O2  d b true e R) (O2  d b (decide (d≥(b.n:Int))) e R))
theorem Xw {a0:OA}{a1 a2:Int}{h:Hp}{R:RP}(hF:aex a0 a1 a2 h R):bq PG 261 #[vp a0,vi a1,vi a2] h R:=iY (lv:=kw) Tryz.func261 hF
def O1  (b d:Int) (c:Sl) (e:Bool) (h:Hp) (R:RP):Prop:=bX e (R (vi 24:Value) h) ((0≤b∧b<(c.n:Int))∧bE c.a fun f=>St h (f.add (b.toNat*1)) (vu d) fun g=>R (vi 0:Value) g)
def aew(i:OA)(j d g:Int)(h:Hp)(R:RP):Prop:=bq PG 182 #[vp i,vi j] h fun r e=>∃b:Sl,∃k:Int,∃f:Int,r=vt #[.slice b.a b.n b.c,vi k,vi f]∧bX (f != (0:Int)) (R (vi f:Value) e) (bX (decide (d<(0:Int))) (O1  d g b true e R) (O1  d g b (decide (d≥(b.n:Int))) e R))
theorem Xv {a0:OA}{a1 a2 a3:Int}{h:Hp}{R:RP}(hF:aew a0 a1 a2 a3 h R):bq PG 262 #[vp a0,vi a1,vi a2,vu a3] h R:=iY (lv:=kw) Tryz.func262 hF
def V7(m:Nat):LN:=if m=5 then [2,9,27,28,29]else []
def O0(J1:Nat→Int→Sl→Sl→Int→Int→Hp→Prop)(n1:Nat)(c:Int)(d e:Sl)(f b:Int)(g:Nat→Value)(h:Hp)(R:RP):Prop:=bX (decide (b<f)) ((0≤b∧b<(e.n:Int))∧bE e.a fun l=>∃i:Int,cell h (l.add (b.toNat*1))=some (.int .u8 i)∧(8:Int)≠0∧(8:Int)≠0∧(8:Int)≠0∧(0≤(wrap .i64 (Int.tdiv (wrap .i64 (c+b)) (8:Int)))∧(wrap .i64 (Int.tdiv (wrap .i64 (c+b)) (8:Int)))<(d.n:Int))∧bE d.a fun o=>∃j:Int,cell h (o.add ((wrap .i64 (Int.tdiv (wrap .i64 (c+b)) (8:Int))).toNat*1))=some (vu j)∧0≤(wrap .i64 ((Int.tmod (wrap .i64 (c+b)) (8:Int))*(8:Int)))∧0≤(wrap .i64 ((Int.tmod (wrap .i64 (c+b)) (8:Int))*(8:Int)))∧(0≤(wrap .i64 (Int.tdiv (wrap .i64 (c+b)) (8:Int)))∧(wrap .i64 (Int.tdiv (wrap .i64 (c+b)) (8:Int)))<(d.n:Int))∧bE d.a fun k=>gZ h (k.add ((wrap .i64 (Int.tdiv (wrap .i64 (c+b)) (8:Int))).toNat*1))∧gi (fy h (k.add ((wrap .i64 (Int.tdiv (wrap .i64 (c+b)) (8:Int))).toNat*1)) (vu (Oa .u64 (jr .u64 j (wrap .u64 ((255:Int)*2 ^ (min (wrap .i64 ((Int.tmod (wrap .i64 (c+b)) (8:Int))*(8:Int))).toNat (IntKind.bits .u64))))) (wrap .u64 ((wrap .u64 i)*2 ^ (min (wrap .i64 ((Int.tmod (wrap .i64 (c+b)) (8:Int))*(8:Int))).toNat (IntKind.bits .u64))))))) fun p=>∃m,m<n1∧J1 m c d e f (wrap .i64 (b+(1:Int))) p) (R (vi 0:Value) h)
abbrev Xu(R:RP)(a:Int)(s9a:OA)(s9n s9c:Nat)(aqX:OA)(aqV aqW:Nat)(b c:Int)(d:Hp):Prop:=dO (kJ PG fN V7 (sub [1,1,1,0,1,0,0] (bd Tryz.f263))) (dW PG fN V7 [1,1,1,0,1,0] (bd Tryz.f263) [] (eJ PG Tryz.f263 [] R)) [(2,vi a),(9,.slice s9a s9n s9c),(27,.slice aqX aqV aqW),(28,vi b),(29,vi c)] 58 d
theorem Mi {R:RP}{s2:Int}{s9 QA:Sl}{Dh xy:Int}{h0:Hp}(J:Nat→Int→Sl→Sl→Int→Int→Hp→Prop)(n0:Nat)(hi:J n0 s2 s9 QA Dh xy h0)(hr:∀n s2 s9 QA Dh xy g h,J n s2 s9 QA Dh xy h→O0  J n s2 s9 QA Dh xy g h R):Xu R s2 s9.a s9.n s9.c QA.a QA.n QA.c Dh xy h0:=iz (l:=[(2,.i .i64),(9,.l),(27,.l),(28,.i .i64),(29,.i .i64)]) (J:=J) (n0:=n0) (s2,s9,QA,Dh,xy,()) hi (fun n s2 s9 QA Dh xy g h=>O0  J n s2 s9 QA Dh xy g h R) hr
def aev(i:OA)(j f:Int)(d:Sl)(h:Hp)(R:RP):Prop:=bq PG 264 #[vp i,vi j,vi f,vi (d.n:Int)] h fun r g=>∃b:Sl,∃e:Int,r=vt #[.slice b.a b.n b.c,vi e]∧bX (e != (0:Int)) (R (vi e:Value) g) (Xu R f b.a b.n b.c d.a d.n d.c (d.n:Int) 0 g)
theorem Xt {a0:OA}{a1 a2:Int}{a3:Sl}{h:Hp}{R:RP}(hF:aev a0 a1 a2 a3 h R):bq PG 263 #[vp a0,vi a1,vi a2,vl a3] h R:=iY (lv:=V7) Tryz.func263 hF
def Cj  (b:Sl) (d:Bool) (h:Hp) (R:RP):Prop:=bX d (R (vt #[.slice none 0 0,vi 25]:Value) h) (R (vt #[.slice b.a b.n b.c,vi 0]:Value) h)
def aeu(j:OA)(k f i:Int)(h:Hp)(R:RP):Prop:=bq PG 182 #[vp j,vi k] h fun r e=>∃b:Sl,∃d:Int,∃g:Int,r=vt #[.slice b.a b.n b.c,vi d,vi g]∧bX (g != (0:Int)) (R (vt #[.slice none 0 0,vi g]:Value) e) ((0≤d∧d≤(b.n:Int))∧bX (decide (f<(0:Int))) (Cj  ⟨if b.c=d.toNat then b.a else Option.map (fun x=>x.add (d.toNat*1)) b.a,b.n-d.toNat,b.c-d.toNat⟩ true e R) (bX (decide (i<(0:Int))) (Cj  ⟨if b.c=d.toNat then b.a else Option.map (fun x=>x.add (d.toNat*1)) b.a,b.n-d.toNat,b.c-d.toNat⟩ true e R) (bX (decide (f>(wrap .i64 ((8:Int)*(((b.n-d.toNat:Nat):Int)))))) (Cj  ⟨if b.c=d.toNat then b.a else Option.map (fun x=>x.add (d.toNat*1)) b.a,b.n-d.toNat,b.c-d.toNat⟩ true e R) (Cj  ⟨if b.c=d.toNat then b.a else Option.map (fun x=>x.add (d.toNat*1)) b.a,b.n-d.toNat,b.c-d.toNat⟩ (decide (i>(wrap .i64 ((wrap .i64 ((8:Int)*(((b.n-d.toNat:Nat):Int))))-f)))) e R))))
theorem Xs {a0:OA}{a1 a2 a3:Int}{h:Hp}{R:RP}(hF:aeu a0 a1 a2 a3 h R):bq PG 264 #[vp a0,vi a1,vi a2,vi a3] h R:=iY (lv:=kw) Tryz.func264 hF
def uv(n:Nat):Value:=vu (n:Int)
theorem ah1 {k r w:Nat}(hk:k≤255)(hr:r≤1048576)(hw:w≤1048576):(k*2 ^ 0 |||r*2 ^ 8) |||w*2 ^ 32=DI k r w:=by
 have h1:k*2 ^ 0 |||r*2 ^ 8=r*2 ^ 8+k:=by
  rw [Nat.or_comm,jF r,kG (by omega),Nat.pow_zero,cQ]
 rw [h1,Nat.or_comm,jF w,←kG (by omega)]
 unfold DI;omega
theorem abr {k r w:Int}{h:Hp}{R:RP}
  (hR:if(1≤k∧k≤255)∧(0≤r∧r≤1048576)∧(0≤w∧w≤1048576)then R (vt #[uv (DI k.toNat r.toNat w.toNat),vi 0]) h else R (vt #[vu 0,vi 10]) h) :
  bq PG 185 #[vi k,vi r,vi w] h R:=by
 refine XT ?_
 have yR:¬((1≤k∧k≤255)∧(0≤r∧r≤1048576)∧(0≤w∧w≤1048576))→xW k r w true h R:=fun hn=>by
  rw [if_neg hn]at hR;exact hR
 unfold aeS
 refine ca (fun c=>yR (by omega)) fun c1=>ca (fun c=>yR (by omega)) fun c2=>ca (fun c=>yR (by omega)) fun c3=>ca (fun c=>yR (by omega)) fun c4=>ca (fun c=>yR (by omega)) fun c5=>?_
 unfold xW
 refine ca (fun c=>by rw [if_neg (by omega)]at hR;exact hR) fun c6=>?_
 rw [if_pos (by omega)]at hR
 refine⟨by omega,by omega,by omega,?_⟩
 obtain⟨k,rfl⟩:=dp (show 0≤k by omega)
 obtain⟨r,rfl⟩:=dp (show 0≤r by omega)
 obtain⟨w,rfl⟩:=dp (show 0≤w by omega)
 have e:Oa .u64 (Oa .u64 (wrap .u64 ((wrap .u64 (k:Int))*2 ^ (min (0:Int).toNat (IntKind.bits .u64)))) (wrap .u64 ((wrap .u64 (r:Int))*2 ^ (min (8:Int).toNat (IntKind.bits .u64))))) (wrap .u64 ((wrap .u64 (w:Int))*2 ^ (min (32:Int).toNat (IntKind.bits .u64))))=(DI k r w:Int):=by
  have b0:(2:Int) ^ (min (0:Int).toNat (IntKind.bits .u64))=((2 ^ 0:Nat):Int):=rfl
  have b8:(2:Int) ^ (min (8:Int).toNat (IntKind.bits .u64))=((2 ^ 8:Nat):Int):=rfl
  have b32:(2:Int) ^ (min (32:Int).toNat (IntKind.bits .u64))=((2 ^ 32:Nat):Int):=rfl
  rw [b0,b8,b32,eN (x:=(k:Int)) (by omega) (by omega),eN (x:=(r:Int)) (by omega) (by omega),eN (x:=(w:Int)) (by omega) (by omega)]
  rw [←mI,←mI,←mI]
  rw [eN (by omega) (by omega),eN (by omega) (by omega),eN (by omega) (by omega)]
  rw [yF (by omega) (by omega)]
  have hk':k≤255:=by omega
  have Uc:r≤1048576:=by omega
  have On:w≤1048576:=by omega
  have fE:(k*2 ^ 0 |||r*2 ^ 8)<2 ^ 64:=uk (by omega) (by omega)
  rw [yF (by omega) (by omega),ah1 hk' Uc On]
 rw [e]
 exact hR
theorem UR {k r w:Nat}{h:Hp}{R:RP}(hk1:1≤k)(hk:k≤255)(hr:r≤1048576)(hw:w≤1048576)
  (hR:R (vt #[vi (k:Int),vi (r:Int),vi (w:Int),vi 0]) h):bq PG 180 #[uv (DI k r w)] h R:=by
 refine XY ?_
 have e56:Int.fdiv (DI k r w:Int) (2 ^ (min (56:Int).toNat (IntKind.bits .u64)))=0:=by
  have:(min (56:Int).toNat (IntKind.bits .u64))=56:=rfl
  rw [this,ri]
  have:DI k r w / 2 ^ 56=0:=Nat.div_eq_of_lt (by unfold DI;omega)
  rw [this];rfl
 have ek:wrap .i64 (ot .u64 (DI k r w:Int) (255:Int))=(k:Int):=by
  have:=vC (a:=DI k r w) (b:=255) (by unfold DI;omega) (by omega)
  rw [show ((255:Nat):Int)=(255:Int)from rfl]at this
  rw [this,show (255:Nat)=2 ^ 8-1 from rfl,mc,bU (by omega) (by omega)]
  have:DI k r w%2 ^ 8=k:=by unfold DI;omega
  rw [this]
 have er:wrap .i64 (ot .u64 (Int.fdiv (DI k r w:Int) (2 ^ (min (8:Int).toNat (IntKind.bits .u64)))) (16777215:Int))=(r:Int):=by
  have h8:(min (8:Int).toNat (IntKind.bits .u64))=8:=rfl
  have hd:DI k r w / 2 ^ 8=r+w*2 ^ 24:=by unfold DI;omega
  rw [h8,ri,hd]
  have:=vC (a:=r+w*2 ^ 24) (b:=16777215) (by omega) (by omega)
  rw [show ((16777215:Nat):Int)=(16777215:Int)from rfl]at this
  rw [this,show (16777215:Nat)=2 ^ 24-1 from rfl,mc,bU (by omega) (by omega)]
  have:(r+w*2 ^ 24)%2 ^ 24=r:=by omega
  rw [this]
 have ew:wrap .i64 (ot .u64 (Int.fdiv (DI k r w:Int) (2 ^ (min (32:Int).toNat (IntKind.bits .u64)))) (16777215:Int))=(w:Int):=by
  have h32:(min (32:Int).toNat (IntKind.bits .u64))=32:=rfl
  have hd:DI k r w / 2 ^ 32=w:=by unfold DI;omega
  rw [h32,ri,hd]
  have:=vC (a:=w) (b:=16777215) (by omega) (by omega)
  rw [show ((16777215:Nat):Int)=(16777215:Int)from rfl]at this
  rw [this,show (16777215:Nat)=2 ^ 24-1 from rfl,mc,bU (by omega) (by omega)]
  have:w%2 ^ 24=w:=by omega
  rw [this]
 unfold aeX
 simp only [e56,ek,er,ew]
 refine⟨by omega,by omega,by omega,?_⟩
 refine cj (by simp) (cj (by simp;omega) (ca (fun c=>by omega) fun _=>?_))
 unfold Fy
 refine ca (fun c=>by omega) fun _=>hR
end Go.Ev
