/- The program's table: keys sorted by hash ord. No condition. -/
import Derived.Test.YtjigacanjlppiaaGreatDoorQ12
import Derived.Ground.SlsfProg
set_option linter.all false
set_option maxRecDepth 1000000
open Go.IntKind (wrap)
namespace Go.Proofs
open Go.Shelf Go.Ev
theorem aU {α:Type}{a b:α}{x:Option α}(h:x=some a)(e:a=b:=by kernel_rfl):x=some b:=h.trans (congrArg some e)
open Tryz
def Tryz.akB:Go.Shelf.Ren:=⟨fun | 6=>157 | 15=>160 | 14=>198 | 28=>208 | 29=>209 | 20=>224 | 21=>225 | 22=>226 | 23=>227 | 24=>228 | 25=>229 | 26=>230 | 27=>231 | 46=>238 | 47=>233 | 48=>234 | 49=>239 | 50=>240 | 57=>242|n=>n,fun | 22=>178 | 24=>102 | 25=>181 | 3=>3 | 39=>75 | 0=>0 | 53=>259 | 55=>27 | 4=>4 | 46=>265 | 45=>264 | 50=>235 | 5=>5 | 9=>9 | 66=>306 | 70=>309 | 76=>315 | 77=>215|n=>n,fun|n=>n⟩
theorem Tryz.sortNm:Go.Proofs.SlLaysF0.n6 PG Tryz.akB:=by
 constructor
 all_goals first|kernel_rfl | (intro w;rfl)|exact aU func160|exact aU func208|exact aU func209|exact aU alt|exact aU als|exact⟨f157.name,by decide,aU func157⟩|exact⟨f198.name,by decide,aU func198⟩|exact⟨f224.name,by decide,aU func224⟩|exact⟨f225.name,by decide,aU func225⟩|exact⟨f226.name,by decide,aU func226⟩|exact⟨f227.name,by decide,aU func227⟩|exact⟨f228.name,by decide,aU func228⟩|exact⟨f229.name,by decide,aU func229⟩|exact⟨f230.name,by decide,aU func230⟩|exact⟨f231.name,by decide,aU func231⟩|exact⟨f238.name,by decide,aU func238⟩|exact⟨f239.name,by decide,aU func239⟩|exact⟨f240.name,by decide,aU func240⟩|exact⟨f242.name,by decide,aU func242⟩
def Tryz.ali:Go.Shelf.Ren:=⟨fun | 6=>112 | 15=>160 | 14=>159 | 28=>208 | 29=>209 | 20=>200 | 21=>201 | 22=>202 | 23=>203 | 24=>204 | 25=>205 | 26=>206 | 27=>207 | 46=>232 | 47=>233 | 48=>234 | 49=>235 | 50=>236 | 57=>241|n=>n,fun | 22=>37 | 24=>39 | 25=>97 | 3=>3 | 39=>75 | 0=>0 | 53=>259 | 55=>27 | 4=>4 | 46=>265 | 45=>264 | 50=>235 | 5=>5 | 9=>9 | 66=>306 | 70=>309 | 76=>315 | 77=>215|n=>n,fun|n=>n⟩
theorem Tryz.sortBs:Go.Proofs.SlLaysF.n6 PG Tryz.ali:=by
 constructor
 all_goals first|kernel_rfl | (intro w;rfl)|exact aU func160|exact aU func208|exact aU func209|exact aU alt|exact aU als|exact⟨f112.name,by decide,aU func112⟩|exact⟨f159.name,by decide,aU func159⟩|exact⟨f200.name,by decide,aU func200⟩|exact⟨f201.name,by decide,aU func201⟩|exact⟨f202.name,by decide,aU func202⟩|exact⟨f203.name,by decide,aU func203⟩|exact⟨f204.name,by decide,aU func204⟩|exact⟨f205.name,by decide,aU func205⟩|exact⟨f206.name,by decide,aU func206⟩|exact⟨f207.name,by decide,aU func207⟩|exact⟨f232.name,by decide,aU func232⟩|exact⟨f235.name,by decide,aU func235⟩|exact⟨f236.name,by decide,aU func236⟩|exact⟨f241.name,by decide,aU func241⟩
end Go.Proofs
namespace Go.Ev
open Go.Proofs Go.Shelf Go.RowKit Go.Lib Go.Sort
theorem QW(x y:HK):ltOf hkC x y=decide (kV x y):=by
 unfold ltOf kV
 rfl
theorem NH:SWO (ltOf hkC) where
 irrefl x:=by rw [QW];exact decide_eq_false (Bh x)
 trans x y z h1 h2:=by
  rw [QW]at *
  exact decide_eq_true (nt (of_decide_eq_true h1) (of_decide_eq_true h2))
 ntrans x y z h1 h2:=by
  rw [QW]at *
  have h1:=of_decide_eq_false h1
  have h2:=of_decide_eq_false h2
  refine decide_eq_false fun h=>?_
  by_cases e:x=y
  ·subst e;exact h2 h
  ·by_cases e2:y=z
   ·subst e2;exact h1 h
   ·exact Bh x (nt h (nt ((qt e2).resolve_left h2) ((qt e).resolve_left h1)))
theorem IB:SWO (ltOf i0) where
 irrefl x:=by unfold ltOf;exact decide_eq_false (yo x)
 trans x y z h1 h2:=by
  unfold ltOf at *
  exact decide_eq_true (qx (of_decide_eq_true h1) (of_decide_eq_true h2))
 ntrans x y z h1 h2:=by
  unfold ltOf at *
  have h1:=of_decide_eq_false h1
  have h2:=of_decide_eq_false h2
  refine decide_eq_false fun h=>?_
  by_cases e:x=y
  ·subst e;exact h2 h
  ·by_cases e2:y=z
   ·subst e2;exact h1 h
   ·exact yo x (qx h (qx ((wh e2).resolve_left h2) ((wh e).resolve_left h1)))
section
variable {h h' h0 h1 h2:Hp} {R:RP} {a:Sl} {ob:Option Nat} {l l':List Nm}
theorem aoM {x y:Nat}(hR:R (vi (if x<y then -1 else if y<x then 1 else 0)) h):bq PG 158 #[uv x,uv y] h R:=by
 refine X1 ?_
 unfold aeZ
 have nan:∀(z:Nat) (R:RP),R (vb false) h→bq PG 199 #[uv z] h R:=fun z R hR=>by
  refine XG ?_
  unfold aeG
  rw [bne_self_eq_false]
  exact hR
 refine nan _ _ ⟨_,rfl,nan _ _ ⟨_,rfl,?_⟩⟩
 refine cj rfl (cj rfl ?_)
 by_cases e:x<y
 ·rw [if_pos e]at hR
  exact cr (decide_eq_true (by omega)) hR
 ·rw [if_neg e]at hR
  refine cj (decide_eq_false (by omega)) ?_
  by_cases e2:y<x
  ·rw [if_pos e2]at hR
   exact cr (decide_eq_true (by omega)) hR
  ·rw [if_neg e2]at hR
   exact cj (decide_eq_false (by omega)) hR
def Nm.In(h:Hp)(x:Nm):Prop:=eM h x.c (x.key.map bv)∧fK x.key
theorem yB {h:Hp}{c:Nat}{l:LV}(r:eM h c l):dZ h (sa c) l:=lQ r fun k v hv=>by rw [fo];exact hv
theorem TF {x y:Nm}(hx:x.In h)(hy:y.In h)(hR:∀h',bY N h h'→R (vi (hkC x.hk y.hk)) h') :
  bq PG 111 #[.agg (QR x).toArray,.agg (QR y).toArray] h R:=by
 refine YA (pF:=(x.hs:Int)) (lf:=⟨some (ad x.c),x.key.length,x.key.length⟩) (mq:=(y.hs:Int)) (mn:=⟨some (ad y.c),y.key.length,y.key.length⟩) ?_
 unfold afs
 refine dh fun h1 e1=>?_
 have r1:eM h1 h.size (QR x):=by rw [e1];exact du h _ 102
 have k1:bY N h h1:=by rw [e1];exact cF h _ N
 clear e1
 refine dh fun h2 e2=>?_
 have r2:eM h2 h1.size (QR y):=by rw [e2];exact du h1 _ 102
 have k2:bY N h1 h2:=by rw [e2];exact cF h1 _ N
 clear e2
 have r1':=bF k2 r1 (fun z=>z)
 have k:=k1.trans k2
 refine⟨_,bS r1' 0,_,bS r2 0,?_⟩
 refine aoM ⟨_,rfl,?_⟩
 unfold Nm.hk hkC at hR
 by_cases e:x.hs<y.hs
 ·rw [if_pos e]
  rw [if_pos e]at hR
  exact cr rfl (hR _ k)
 ·rw [if_neg e]
  rw [if_neg e]at hR
  by_cases e2:y.hs<x.hs
  ·rw [if_pos e2]
   rw [if_pos e2]at hR
   exact cr rfl (hR _ k)
  ·rw [if_neg e2]
   rw [if_neg e2]at hR
   refine cj rfl ⟨⟨some (ad x.c),x.key.length,x.key.length⟩,?_,⟨some (ad y.c),y.key.length,y.key.length⟩,?_,?_⟩
   ·show cell h2 ((ad h.size).add 1)=_
    rw [cm]
    exact bS r1' 1
   ·show cell h2 ((ad h1.size).add 1)=_
    rw [cm]
    exact bS r2 1
   ·exact J5 (yB (bF k hx.1 fun z=>z)) rfl hx.2 (yB (bF k hy.1 fun z=>z)) rfl hy.2 ⟨_,rfl,hR _ k⟩
theorem Tv:∀args w,(callFunc 111 args).run PG w=.ok (.enter 111 args) w:=enters_of Tryz.func111 (by kernel_rfl) rfl
theorem aaX(x:Nm):∀v∈QR x,v.oneCell'=true:=fun v hv=>by
 simp [QR]at hv;rcases hv with rfl|rfl<;>rfl
theorem NL.arh(x:NL h0 h a ob l){b:Nat}(hb:ob=some b):∃ic,eM h b (l.flatMap QR++ic)∧a.a=some (ad b):=by
 obtain⟨e,_,j,r,_⟩:=x.gl.sl.row b hb
 exact⟨j,r,e⟩
theorem sortNm(x:NL h0 h a ob l)(h8:∀y∈l,fK y.key)(hn:(l.map Nm.hk).Nodup) (o0:l.length<400000000)
  (hR:∀l' h',NL h0 h' a ob l'→l'.Perm l→l'.map Nm.hk=Ah (l.map Nm.hk)→bY (fun b=>ob=some b) h h'→R (.slice a.a a.n a.c) h') :
  bq PG 110 #[.slice a.a a.n a.c,.func (.func 111) #[] #[]] h R:=by
 refine YB ?_
 unfold auH
 cases ob with
 |none =>
  have hs:=x.gl.sl.nil rfl
  have hl:l=[]:=dA.1 (by have:=x.len;rw [hs.2.1]at this;exact this.symm)
  subst hl
  have DG:(a.n:Int)=((0:Nat):Int):=by rw [hs.2.1]
  have key:=US (h:=h) (R:=fun r h1=>r=vt #[]∧R (.slice a.a a.n a.c) h1) Tryz.sortNm a.a a.c (.func (.func 111) #[] #[]) ⟨rfl,hR [] h x (fT _) (by rw [kI];exact(List.perm_nil.1 (oU [])).symm) (bY.refl _ _)⟩
  rw [hs.2.1]
  rw [hs.2.1]at key
  exact key
 |some b =>
  obtain⟨ic,oZ,ha⟩:=x.arh rfl
  have hl:=x.len
  by_cases iS:l=[]
  ·subst iS
   have key:=US (h:=h) (R:=fun r h1=>r=vt #[]∧R (.slice a.a a.n a.c) h1) Tryz.sortNm a.a a.c (.func (.func 111) #[] #[]) ⟨rfl,hR [] h x (fT _) (by rw [kI];exact(List.perm_nil.1 (oU [])).symm) (bY.refl _ _)⟩
   have h0:a.n=0:=by rw [hl];rfl
   rw [h0]
   rw [h0]at key
   exact key
  ·have key:=akW (h:=h) (R:=fun r h1=>r=vt #[]∧R (.slice a.a a.n a.c) h1) Tryz.sortNm 2 Tryz.isAgg102 Tryz.sizeOf102 QR yG aaX (fun x y=>hkC x.hk y.hk)
    ⟨fun x=>NH.irrefl x.hk,fun x y z=>NH.trans x.hk y.hk z.hk,fun x y z=>NH.ntrans x.hk y.hk z.hk⟩ 111 Tv (fun y=>y.In h∧y.c≠b) b a.c l ic iS
    (fun h2 k y z hy hz=>TF ⟨bF k hy.1.1 hy.2,hy.1.2⟩ ⟨bF k hz.1.1 hz.2,hz.1.2⟩ fun h3 k3=>⟨rfl,k3⟩)
    (fun y hy=>⟨⟨(x.row y hy).1,h8 y hy⟩,fun e=>(x.row y hy).2.2 (by rw [e])⟩) oZ (by omega)
    (fun l' h' hp hs hr k=>by
     have GW:l'.length=l.length:=hp.length_eq
     have e1:(l'.flatMap QR).length=(l.flatMap QR).length:=by rw [gN yG,gN yG,GW]
     refine⟨rfl,hR l' h' ⟨⟨⟨by rw [e1];exact x.gl.sl.len,nofun,fun b' fV=>?_⟩,x.gl.new⟩,fun y hy=>?_,?_⟩ hp ?_ (k.mono fun i _ e=>by rw [e])⟩
     ·obtain rfl:=bt fV
      obtain⟨_,q2,j2,r2,q3⟩:=x.gl.sl.row b rfl
      refine⟨ha,q2,ic,hr,?_⟩
      obtain⟨t,ht⟩:=oZ
      obtain⟨t2,I8⟩:=r2
      rw [ht]at I8
      have:=congrArg List.length (List.toArray_inj (Obj.cells.inj (bt I8)).1)
      rw [bG,bG]at this
      omega
     ·have DF:=hp.mem_iff.1 hy
      have h3:=x.row y DF
      exact⟨bF k h3.1 fun e=>h3.2.2 (by rw [e]),h3.2⟩
     ·exact(hp.map _).nodup_iff.2 x.CV
     ·have p1:(l'.map Nm.hk).Perm (l.map Nm.hk):=hp.map _
      refine Cb (p1.trans (oU _).symm) ?_ (Cc hn)
      have n1:(l'.map Nm.hk).Nodup:=p1.nodup_iff.2 hn
      have s1:(l'.map Nm.hk).Pairwise fun x y=>ltOf hkC y x=false:=by rw [lD];exact hs
      refine(pP n1 s1).imp fun {u v} hh=>(qt hh.1).resolve_right ?_
      have:=hh.2
      rw [QW]at this
      exact of_decide_eq_false this)
   rw [hl,ha]at key ⊢
   exact key
end
def bsV(x:Nm):Value:=.slice (sa x.c) x.key.length x.key.length
structure BL (h0 h:Hp) (a:Sl) (ob:Option Nat) (l:List Nm):Prop where
 gl:GL 1 h0 h a ob (l.map bsV)
 row:∀x∈l,eM h x.c (x.key.map bv)∧h0.size≤x.c∧ob≠some x.c
 CV:(l.map (·.c)).Nodup
def HN(a b:LN):Prop:=i0 a b<0
section
variable {h h' h0 h1 h2:Hp} {R:RP} {a:Sl} {ob:Option Nat} {l l':List Nm} {S:Nat→Prop}
theorem BL.nil(h0 h:Hp):BL h0 h ⟨none,0,0⟩ none []:=⟨GL.nil 1 h0 h,nofun,gQ⟩
theorem BL.eG(x:BL h0 h a ob l)(k:bY S h h')(hS:∀b,S b→ob≠some b∧∀y∈l,y.c≠b):BL h0 h' a ob l :=
 ⟨x.gl.eG k fun b hb s=>(hS b s).1 hb,fun y hy=>⟨bF k (x.row y hy).1 fun s=>(hS _ s).2 y hy rfl,(x.row y hy).2⟩,x.CV⟩
theorem BL.cI(x:BL h0 h a ob l)(k:bY N h h'):BL h0 h' a ob l:=x.eG k fun _ s=>s.elim
theorem BL.len(x:BL h0 h a ob l):a.n=l.length:=by
 have:=x.gl.len
 rw [bA]at this
 omega
theorem BL.add {e t:TypeId}{y:Nm}{K:OA→Nat→Nat→Hp→Prop}(x:BL h0 h a ob l)(ZR:h0.size≤h.size)(hr:eM h y.c (y.key.map bv)) (hy0:h0.size≤y.c) (hyo:ob≠some y.c) (hyn:∀w∈l,w.c≠y.c) (o0:l.length≤400000000)
  (hK:∀a' c' h' jK,BL h0 h' ⟨a',a.n+1,c'⟩ jK (l++[y])→bY (fun b=>ob=some b) h h'→(∀b,jK=some b→ob=some b∨h.size≤b)→K a' (a.n+1) c' h') :
  gi (h.push (.cells #[.slice (sa y.c) y.key.length y.key.length] t)) fun h2=>im e 1 24 #[.slice none 0 0] a.a a.n a.c (some (nb h)) 1 h2 K:=by
 have hn:=x.len
 refine x.gl.add (arr:=#[.slice (sa y.c) y.key.length y.key.length]) ZR rfl rfl (fun v hv=>by
  simp at hv;rcases hv with rfl;rfl) (by omega) (by omega) fun a' c' h' jK gl k nw=>hK a' c' h' jK ⟨?_,fun w hw=>?_,?_⟩ k nw
 ·rw [cx]
  exact gl
 ·have lt:∀w:Nm,eM h w.c (w.key.map bv)→ob≠some w.c→eM h' w.c (w.key.map bv)∧jK≠some w.c:=fun w hw ho=>⟨bF k hw ho,fun e=>(nw _ e).elim ho fun hl=>by have:=eE hw;omega⟩
  rcases bI.1 hw with hw|hw
  ·obtain⟨r1,r2,r3⟩:=x.row w hw
   obtain⟨q1,q2⟩:=lt w r1 r3
   exact⟨q1,r2,q2⟩
  ·rw [bM.1 hw]
   obtain⟨q1,q2⟩:=lt y hr hyo
   exact⟨q1,hy0,q2⟩
 ·rw [cx,cu]
  refine⟨x.CV,by simp,fun u hu w hw e=>?_⟩
  obtain⟨w0,Ua,rfl⟩:=cy.1 hu
  have:w=y.c:=by simpa using hw
  exact hyn w0 Ua (e.trans this)
theorem YQ:∀args w,(callFunc 65 args).run PG w=.ok (.enter 65 args) w:=enters_of Tryz.func65 (by kernel_rfl) rfl
theorem sortBs(x:BL h0 h a ob l)(h8:∀y∈l,fK y.key)(hn:(l.map (·.key)).Nodup) (o0:l.length<400000000)
  (hR:∀l' h',BL h0 h' a ob l'→l'.Perm l→(l'.map (·.key)).Pairwise HN→bY (fun b=>ob=some b) h h'→R (.slice a.a a.n a.c) h') :
  bq PG 64 #[.slice a.a a.n a.c,.func (.func 65) #[] #[]] h R:=by
 refine ab1 ?_
 unfold an5
 have aqv:l=[]→R (.slice a.a a.n a.c) h:=fun e=>by
  subst e
  exact hR [] h x (fT _) List.Pairwise.nil (bY.refl _ _)
 have hl:=x.len
 by_cases iS:l=[]
 ·have key:=US (h:=h) (R:=fun r h1=>r=vt #[]∧R (.slice a.a a.n a.c) h1) (L:={Tryz.sortBs with}) a.a a.c (.func (.func 65) #[] #[]) ⟨rfl,aqv iS⟩
  have h0:a.n=0:=by rw [hl,iS];rfl
  rw [h0]
  rw [h0]at key
  exact key
 cases ob with
 |none =>
  have hs:=x.gl.sl.nil rfl
  exact absurd (dA.1 (by rw [←hl];exact hs.2.1)) iS
 |some b =>
  obtain⟨ha,_,ic,oZ,_⟩:=x.gl.sl.row b rfl
  have key:=akX (h:=h) (R:=fun r h1=>r=vt #[]∧R (.slice a.a a.n a.c) h1) Tryz.sortBs bsV (fun _=>rfl) (fun x y=>i0 x.key y.key)
    ⟨fun x=>IB.irrefl x.key,fun x y z=>IB.trans x.key y.key z.key,fun x y z=>IB.ntrans x.key y.key z.key⟩ 65 YQ (fun y=>y.In h∧y.c≠b) b a.c l ic iS
    (fun h2 k y z hy hz=>J5 (a:=⟨some (ad y.c),y.key.length,y.key.length⟩) (c:=⟨some (ad z.c),z.key.length,z.key.length⟩) (yB (bF k hy.1.1 hy.2)) rfl hy.1.2 (yB (bF k hz.1.1 hz.2)) rfl hz.1.2 ⟨rfl,bY.refl _ _⟩)
    (fun y hy=>⟨⟨(x.row y hy).1,h8 y hy⟩,fun e=>(x.row y hy).2.2 (by rw [e])⟩) oZ (by omega)
    (fun l' h' hp hs hr k=>by
     have GW:l'.length=l.length:=hp.length_eq
     refine⟨rfl,hR l' h' ⟨⟨⟨by rw [bA,GW,←bA (f:=bsV)];exact x.gl.sl.len,nofun,fun b' fV=>?_⟩,x.gl.new⟩,fun y hy=>?_,?_⟩ hp ?_ (k.mono fun i _ e=>by rw [e])⟩
     ·obtain rfl:=bt fV
      obtain⟨_,q2,j2,r2,q3⟩:=x.gl.sl.row b rfl
      refine⟨ha,q2,ic,hr,?_⟩
      obtain⟨t,ht⟩:=oZ
      obtain⟨t2,I8⟩:=r2
      rw [ht]at I8
      have:=congrArg List.length (List.toArray_inj (Obj.cells.inj (bt I8)).1)
      simp only [bG,bA]at this q3 ⊢
      omega
     ·have DF:=hp.mem_iff.1 hy
      have h3:=x.row y DF
      exact⟨bF k h3.1 fun e=>h3.2.2 (by rw [e]),h3.2⟩
     ·exact(hp.map _).nodup_iff.2 x.CV
     ·have p1:(l'.map (·.key)).Perm (l.map (·.key)):=hp.map _
      have n1:(l'.map (·.key)).Nodup:=p1.nodup_iff.2 hn
      have s1:(l'.map (·.key)).Pairwise fun x y=>ltOf i0 y x=false:=by rw [lD];exact hs
      refine(pP n1 s1).imp fun {u v} hh=>(wh hh.1).resolve_right ?_
      have:=hh.2
      unfold ltOf at this
      exact of_decide_eq_false this)
  rw [hl,ha]at key ⊢
  exact key
end
end Go.Ev
namespace Go.Ev
open Go.Proofs
def TD.lJ(T:TD):List rI:=T.nw::T.od.toList
theorem TD.vA(T:TD):T.lJ.flatMap rI.dc=T.dc:=by
 unfold TD.lJ TD.dc
 cases ho:T.od with
 |none=>rw [TD.zX ho];simp
 |some o=>rw [TD.iu ho];simp
theorem TD.Zl(T:TD):1≤T.lJ.length∧T.lJ.length≤2:=by
 unfold TD.lJ
 cases T.od<;>simp
structure ao0 (nd:List di) (T:TD) (A:rI):Prop where
 n:nd[A.id]?=some ⟨5,A.cs.map lL,[]⟩
 l:A.cs.length=2 ^ A.j
 j:A.j≤20
 s:∀i c,A.cs[i]?=some c→BI nd c 0∧∀x∈c,bk A.j x.hs=i
 i:A.id∈T.dN
 e:∀x∈A.dc,x∈T.dc
theorem yT.arr {nd:List di}{T:TD}(c:yT nd T):∀A∈T.lJ,ao0 nd T A:=fun A hA=>by
 unfold TD.lJ at hA
 rcases ck.1 hA with rfl|hA
 ·exact⟨c.g.wn,c.g.ln,c.g.jn,c.g.sn,T.nU,fun x hx=>bW _ hx⟩
 ·rw [Option.mem_toList]at hA
  have ho:T.od=some A:=hA
  exact⟨c.g.wo A ho,c.g.F3 A ho,c.g.jo A ho,c.g.so A ho,TD.rG ho,fun x hx=>bK _ (by rw [TD.iu ho];exact hx)⟩
theorem CF {α:Type}{l l':List (List α)} (h:l.Sublist l'):l.flatten.Sublist l'.flatten:=by
 induction h with
 |slnil=>exact mZ _
 |cons x _ ih=>rw [pM];exact ih.trans (List.sublist_append_right _ _)
 |cons_cons x _ ih=>rw [pM,pM];exact(mZ _).append ih
theorem QJ {α:Type}(cs:List (List α)) (a n:Nat):(((cs.drop a).take n).flatten).Sublist cs.flatten:=by
 have h:((cs.drop a).take n).Sublist cs:=(mX _ _).trans (pN _ _)
 exact CF h
theorem yT.okb {nd:List di}{T:TD}(c:yT nd T){x:iM}(hx:x∈T.dc):Ko x.key:=by
 rw [←T.vA]at hx
 obtain⟨A,hA,hx⟩:=mf.1 hx
 obtain⟨i,d,hd,hxd⟩:=iC hx
 obtain⟨n,h⟩:=BI.Uj ((c.arr A hA).s i d hd).1 hxd
 exact h.2.2
def TD.part(T:TD)(pj p:Nat):List iM:=T.lJ.flatMap fun A=>A.part pj p
theorem BY {nd:List di}{T:TD}(c:yT nd T){pj p:Nat}(hp:∀A∈T.lJ,pj≤A.j):T.part pj p=T.dc.filter fun x=>decide (bk pj x.hs=p):=by
 unfold TD.part
 rw [←T.vA,xV]
 have:∀l:List rI,(∀A∈l,A∈T.lJ)→l.flatMap (fun A=>A.part pj p)=l.flatMap fun A=>A.dc.filter fun x=>decide (bk pj x.hs=p):=by
  intro l hl
  induction l with
  |nil=>rfl
  |cons A l ih =>
   have ok:=c.arr A (hl A (bQ ..))
   rw [cJ,cJ,ih fun B hB=>hl B (bJ _ hB),aaO (hp A (hl A (bQ ..))) ok.j fun i c hc=>(ok.s i c hc).2]
 exact this _ fun _ h=>h
theorem SN {nd:List di}{T:TD}(c:yT nd T)(k:oH T){pj p:Nat}(hp:∀A∈T.lJ,pj≤A.j):
  ((T.part pj p).map iM.hk).Nodup∧Ah ((T.part pj p).map iM.hk)=T.oo.filter fun x=>decide (bk pj x.1=p):=by
 rw [BY c hp]
 have e:(T.dc.filter fun x=>decide (bk pj x.hs=p)).map iM.hk=(T.dc.map iM.hk).filter fun x=>decide (bk pj x.1=p):=by
  rw [List.filter_map];rfl
 rw [e]
 have hn:((T.dc.map iM.hk).filter fun x=>decide (bk pj x.1=p)).Nodup:=k.WA.sublist kj
 exact⟨hn,Cb ((oU _).trans (T.sU.filter _).symm) (Cc hn) (k.pw.sublist kj)⟩
abbrev TK(s:RS)(A:rI):Value:=uv (s.fk A.id)
section
variable {h h0 h1 h2:Hp} {q q2:HQ} {s s2:RS} {nd:List di} {m:di} {id tb hn:Nat} {T:TD} {R:RP} {a sA:Sl} {ob:Option Nat} {l l':List Nm} {ab c0 c1 pj p:Nat} {yv:Value}
abbrev ajm(J1:Nat→Value→Addr→Addr→Sl→Int→Int→Hp→Prop)(n1:Nat)(yv:Value)(c0 c1:Nat)(sA:Sl)(pj p:Nat)(t:Sl)(R:RP)(h:Hp):Prop :=
 dO (uw PG fN pU (sub [1,1,1,1,1,0,0,1,0,0,1,1,1,0,0] (bd Tryz.f107))) (lM PG fN pU [1,1,1,1,1,0,0,1,0,0,1,1,1,0] (bd Tryz.f107) [sS (Cl J1) n1] (eJ PG Tryz.f107 [] R)) [(0,yv),(1,vp (sa c0)),(2,vp (sa c1)),(4,.slice sA.a sA.n sA.c),(5,vi ((2 ^ pj:Nat):Int)),(7,vi (p:Nat)),(78,.slice t.a t.n t.c),(79,vi ((t.n:Int))),(80,vi 0)] 95 h
theorem ako {J1:Nat→Value→Addr→Addr→Sl→Int→Int→Hp→Prop}{n1:Nat}{g0:Nat→Value}(p0:qA h0 q s nd tb hn T)(k0:oH T)(hp:∀A∈T.lJ,pj≤A.j)(hpp:p<2 ^ pj)(xA:GL 1 h1 h0 sA (some ab) (T.lJ.map (TK s)))
  (r0:eM h0 c0 [vp (sa tb)])
  (hK:∀t ob l g,NL h0 g t ob l→l.map Nm.hk=T.oo.filter (fun x=>decide (bk pj x.1=p))→(∀y∈l,fK y.key)→bY N h0 g→ajm J1 n1 yv c0 c1 sA pj p t R g) :
  FD J1 n1 yv (ad c0) (ad c1) sA ((2 ^ pj:Nat):Int) (p:Nat) g0 h0 R:=by
 have hpj:pj≤20:=bP (hp T.nw (bQ ..)) p0.c.g.jn
 have h2p:=o7 hpj
 have o0:=p0.len
 unfold FD
 refine cr (decide_eq_true (by omega)) ?_
 have an:sA.n=T.lJ.length:=by have:=xA.len;rw [bA]at this;omega
 have la:=T.Zl
 have agU:∀A∈T.lJ,A.dc.length≤T.dc.length:=fun A hA=>by
  rw [←T.vA]
  exact(List.sublist_flatten_of_mem (List.mem_map_of_mem (f:=rI.dc) hA)).length_le
 refine ML (s4:=sA) (s8:=⟨none,0,0⟩) (A0:=sA) (fun m s0 s1 s2 s4 s5 s7 s8 A0 Et Es g=>∃(i:Nat) (ob:Option Nat) (l:List Nm),i≤T.lJ.length∧m=T.lJ.length-i∧yv=s0∧ad c0=s1∧ad c1=s2∧sA=s4∧s5=((2 ^ pj:Nat):Int)∧s7=(p:Int)∧sA=A0∧Et=(sA.n:Int)∧Es=(i:Int)∧NL h0 g s8 ob l∧l.map Nm.hk=((T.lJ.take i).flatMap fun A=>A.part pj p).map iM.hk∧bY N h0 g) T.lJ.length
  ⟨0,none,[],cP _,rfl,rfl,rfl,rfl,rfl,rfl,rfl,rfl,rfl,rfl,NL.nil _ _,rfl,bY.refl _ _⟩ ?_
 rintro m s0 s1 s2 s4 s5 s7 s8 A0 Et Es g1 g ⟨i,ob,l,hi,rfl,rfl,rfl,rfl,rfl,rfl,rfl,rfl,rfl,rfl,x,el,kg⟩
 unfold Pu
 refine ca (fun fE=>?_) fun o5=>?_
 ·have iZ:i<T.lJ.length:=by omega
  have hA:T.lJ[i]?=some (T.lJ[i]'iZ):=br iZ
  generalize T.lJ[i]'iZ=A at hA
  have hAm:A∈T.lJ:=bx hA
  have ok:=p0.c.arr A hAm
  have pA:=hp A hAm
  have hwd:=agU A hAm
  have eA:=o7 ok.j
  have aoz:2 ^ A.j=2 ^ pj*2 ^ (A.j-pj):=by rw [←Nat.pow_add];congr 1;omega
  have hd0:=two_pos (A.j-pj)
  have aAE:2 ^ (A.j-pj)≤1048576:=(o7 (by have:=ok.j;omega)).1
  obtain⟨b',fV,ha,hc⟩:=(xA.cI kg).at (o:=i) (v:=TK s A) (by rw [bD,hA];rfl)
  have pg:=p0.cI kg
  refine⟨⟨by omega,by omega⟩,cW ha ⟨_,by rw [bu,cQ];exact hc,_,(bS (bF kg r0 _root_.id) 0).trans rfl,?_⟩⟩
  refine zh pg.g pg.l ok.n (pg.da ok.i) ⟨_,rfl,by omega,?_⟩
  have Uh:(A.cs.map lL).length=2 ^ pj*2 ^ (A.j-pj):=by rw [bA,ok.l,aoz]
  have e1:wrap .i64 (Int.tdiv (((⟨5,A.cs.map lL,[]⟩:di).cY.length:Nat):Int) ((2 ^ pj:Nat):Int))=((2 ^ (A.j-pj):Nat):Int):=by
   show wrap .i64 (Int.tdiv (((A.cs.map lL).length:Nat):Int) _)=_
   rw [Uh,←tC,Nat.mul_div_cancel_left _ (two_pos pj)]
   exact bU (by omega) (by omega)
  rw [e1]
  have amM:p*2 ^ (A.j-pj)+2 ^ (A.j-pj)≤2 ^ A.j:=by
   rw [aoz,←nP];exact gA _ hpp
  generalize hde:2 ^ (A.j-pj)=d at *
  have e2:wrap .i64 ((p:Int)*(d:Int))=((p*d:Nat):Int):=by
   rw [←mI];exact bU (by omega) (by omega)
  rw [e2]
  have e3:wrap .i64 (wrap .i64 ((p:Int)+1)*(d:Int))=((p*d+d:Nat):Int):=by
   have:wrap .i64 ((p:Int)+1)=((p+1:Nat):Int):=bU (by omega) (by omega)
   rw [this,←mI,nP];exact bU (by omega) (by omega)
  refine MK (s4:=sA) (s8:=s8) (A0:=sA) (fun m s0 s1 s2 s4 s5 s7 s8 oh pc rO A0 Et Es g=>∃(j:Nat) (ob:Option Nat) (l:List Nm),j≤d∧m=d-j∧yv=s0∧ad c0=s1∧ad c1=s2∧sA=s4∧s5=((2 ^ pj:Nat):Int)∧s7=(p:Int)∧oh=(s.fk A.id:Int)∧pc=(d:Int)∧rO=((p*d+j:Nat):Int)∧sA=A0∧Et=(sA.n:Int)∧Es=(i:Int)∧NL h0 g s8 ob l∧l.map Nm.hk=(((T.lJ.take i).flatMap fun A=>A.part pj p)++((A.cs.drop (p*d)).take j).flatten).map iM.hk∧bY N h0 g) d
   ⟨0,ob,l,cP _,rfl,rfl,rfl,rfl,rfl,rfl,rfl,rfl,rfl,by rw [iF],rfl,rfl,rfl,x,by rw [el];simp,kg⟩ ?_
  rintro m s0 s1 s2 s4 s5 s7 s8 oh pc rO A0 Et Es g2 g' ⟨j,jK,l',hj,rfl,rfl,rfl,rfl,rfl,rfl,rfl,rfl,rfl,rfl,rfl,rfl,rfl,x',el',kg'⟩
  unfold Pt
  rw [e3]
  refine ca (fun fE=>?_) fun o5=>?_
  ·have hjd:j<d:=by omega
   have Jj:p*d+j<A.cs.length:=by rw [ok.l];omega
   have hc:A.cs[p*d+j]?=some (A.cs[p*d+j]'Jj):=br Jj
   generalize A.cs[p*d+j]'Jj=ch at hc
   refine⟨_,(bS (bF kg' r0 _root_.id) 0).trans rfl,?_⟩
   have hcm:∀y∈ch,y∈T.dc:=fun y hy=>ok.e y (dY.2 ⟨ch,bx hc,hy⟩)
   have et:(A.cs.drop (p*d)).take (j+1)=(A.cs.drop (p*d)).take j++[ch]:=by
    rw [jP,fi,hc];rfl
   have awO:((T.lJ.take i).flatMap fun A=>A.part pj p).length≤T.dc.length:=by
    have:((T.lJ.take i).flatMap fun A=>A.part pj p).Sublist (T.lJ.flatMap rI.dc):=by
     have q1:((T.lJ.take i).flatMap fun A=>A.part pj p).Sublist (T.lJ.flatMap fun A=>A.part pj p):=by rw [List.flatMap_def,List.flatMap_def];exact CF ((mX _ _).map _)
     have q2:∀L:List rI,(L.flatMap fun A=>A.part pj p).Sublist (L.flatMap rI.dc):=fun L=>by
      induction L with
      |nil=>exact mZ _
      |cons B L ih=>rw [cJ,cJ];exact(QJ B.cs _ _).append ih
     exact q1.trans (q2 _)
    rw [T.vA]at this
    exact this.length_le
   have hbl:l'.length+ch.length≤400000000:=by
    have h1:=congrArg List.length el'
    rw [bA,bA,bG]at h1
    have h2:=(QJ A.cs (p*d) (j+1)).length_le
    rw [et,ki,bG]at h2
    have h3:[ch].flatten.length=ch.length:=by simp
    have h4:A.cs.flatten.length≤T.dc.length:=hwd
    omega
   refine Z6 p0 kg' x' ok.n (i:=p*d+j) (by rw [bD,hc];rfl) ok.i (ok.s _ _ hc).1 hcm hbl fun a' IW g3 l2 x2 el2 k2 nw2 ny2=>⟨a',rfl,d-(j+1),by omega,j+1,IW,l'++l2,hjd,rfl,rfl,rfl,rfl,rfl,rfl,rfl,rfl,rfl,?_,rfl,rfl,rfl,x2,?_,cL kg' k2 fun b e=>x'.gl.new b e⟩
   ·rw [bU (by omega) (by omega)];omega
   ·rw [cx,el',el2,et,ki]
    simp
  ·obtain rfl:j=d:=by omega
   refine⟨T.lJ.length-(i+1),by omega,i+1,jK,l',iZ,rfl,rfl,rfl,rfl,rfl,rfl,rfl,rfl,rfl,by rw [bU (by omega) (by omega)];rfl,x',?_,kg'⟩
   rw [el',jP,hA]
   have:A.part pj p=((A.cs.drop (p*j)).take j).flatten:=by unfold rI.part;rw [hde]
   simp [this]
 ·obtain rfl:i=T.lJ.length:=by omega
  rw [dE]at el
  have el:l.map Nm.hk=(T.part pj p).map iM.hk:=el
  obtain⟨Jf,hso⟩:=SN p0.c k0 (p:=p) hp
  have hm:∀y∈l,fK y.key:=fun y hy=>by
   have:y.hk∈(T.part pj p).map iM.hk:=el▸List.mem_map_of_mem (f:=Nm.hk) hy
   obtain⟨z,hz,e⟩:=cy.1 this
   rw [BY p0.c hp]at hz
   have ok:=p0.c.okb (dU.1 hz).1
   have:z.key=y.key:=congrArg Prod.snd e
   rw [←this]
   exact ok.b8
  have AJ:l.length<400000000:=by
   have h1:=congrArg List.length el
   rw [bA,bA,BY p0.c hp]at h1
   have:=dT (fun x:iM=>decide (bk pj x.hs=p)) T.dc
   omega
  refine sortNm x hm (el▸Jf) AJ fun l2 g2 x2 hp2 e2 k2=>⟨s8,rfl,hK s8 ob l2 g2 x2 (by rw [e2,el,hso]) (fun y hy=>hm y (hp2.mem_iff.1 hy)) (cL kg k2 fun b e=>x.gl.new b e)⟩
end
section
variable {h h':Hp}
theorem hN {l:Nat}{o:Obj}(hl:l<h.size):bY (fun b=>b=l) h (h.setIfInBounds l o) :=
 ⟨by simp,fun j hj iS=>by rw [Array.getElem?_setIfInBounds_ne (Ne.symm iS)]⟩
theorem iJ {l:Nat}{o:Obj}(hl:h[l]?=some o):l<h.size:=(jg.1 hl).1
theorem t7 {l:Nat}{o:Obj}(hl:l<h.size):(h.setIfInBounds l o)[l]?=some o:=by simp [hl]
theorem dv {S:Nat→Prop}(k:bY S h h'){l:Nat}{o:Obj}(hl:h[l]?=some o)(hn:¬S l):h'[l]?=some o:=(k.2 l (iJ hl) hn).trans hl
theorem jI {l b:Nat}{cs:LV}{r:Loop}(hr:eM h b cs)(hl:h[l]?=some (.loop r)):b≠l:=by
 rintro rfl
 obtain⟨t,ht⟩:=hr
 rw [ht]at hl
 cases hl
end
theorem mV.mono {P:Program}{l:Nat}{args:LV}{h:Hp}{R R':RP}(y:mV P l args h R)(hr:∀v h',R v h'→R' v h'):mV P l args h R':=fun w hw=>by
 obtain⟨fn,tmps,ac,bd,e1,e2⟩:=y w hw
 exact⟨fn,tmps,ac,bd,e1,e2.mono fun e w' ⟨v,he,hs,hv⟩=>⟨v,he,hs,hr v _ hv⟩⟩
theorem qj {P:Program}{T:tD}{g:FuncId}{cap:Array Value}{ps:Array Tmp}{assign body:Code}{l:List (Nat × Value)} {M:Nat} {h:Hp} {K:Option Code→Hp→Prop} (hc:vE P g)
  (hK:∀H fn gl,bY N h H→H.size=h.size+2→H[h.size]?=some (.deferred (some []))→H[h.size+1]?=some (.loop (Dk fn (lU M l gl) ps assign body h.size .ready none)) →
   bq P g ([Value.func (.yield (h.size+1)) #[] #[]]++cap.toList).toArray H fun _ h'=>∃st ph,h'[h.size+1]?=some (.loop (Dk fn (lU M l gl) ps assign body h.size st ph))∧st≠.busy∧K ph (h'.setIfInBounds (h.size+1) (.loop (Dk fn (lU M l gl) ps assign body h.size .exhausted ph)))) :
  yU P T (.func (.func g) #[] cap) ps assign body l M h K:=by
 refine⟨g,#[],cap,rfl,hc,fun fn gl=>?_⟩
 have e1:(h.push (.deferred (some []))).size=h.size+1:=by simp
 refine hK _ fn gl ((cF _ _ _).trans (cF _ _ _)) (by simp) ?_ ?_
 ·have e0:(h.push (.deferred (some [])))[h.size]?=some (.deferred (some [])):=by simp
  exact(ER _ _ (by simp)).trans e0
 ·rw [←e1]
  exact Array.getElem?_push_size
def TD.oS(T:TD)(f:Nat):List HK:=T.oo.filter fun x=>decide (f≤x.1)
def TD.pj(T:TD):Nat:=match T.od with|none=>T.nw.j|some o=>if o.j<T.nw.j then o.j else T.nw.j
theorem TD.Vz(T:TD):∀A∈T.lJ,T.pj≤A.j:=fun A hA=>by
 unfold TD.lJ at hA
 unfold TD.pj
 cases ho:T.od with
 |none =>
  rw [ho]at hA
  have:A=T.nw:=by simpa using hA
  subst this
  exact bH _
 |some o =>
  rw [ho]at hA
  have:A=T.nw∨A=o:=by simpa using hA
  dsimp only
  split<;>rcases this with rfl|rfl<;>omega
theorem aa2(a b:Nat):(if((2 ^ a:Nat):Int)<((2 ^ b:Nat):Int)then((2 ^ a:Nat):Int)else((2 ^ b:Nat):Int))=((2 ^ (if a<b then a else b):Nat):Int):=by
 by_cases h:a<b
 ·have:=nG (a:=2) (by omega) h
  rw [if_pos h,if_pos (by omega)]
 ·have:=fQ (n:=2) (by omega) (Nat.le_of_not_lt h)
  rw [if_neg h,if_neg (by omega)]
def TD.A6(T:TD)(f p:Nat):List HK:=(List.range' p (2 ^ T.pj-p)).flatMap fun p=>(T.oo.filter fun x=>decide (bk T.pj x.1=p)).filter fun x=>decide (f≤x.1)
theorem SF(T:TD)(f:Nat):T.A6 f (2 ^ T.pj)=[]:=by unfold TD.A6;rw [dD];rfl
theorem Vi(T:TD)(f:Nat){p:Nat}(h:p<2 ^ T.pj):T.A6 f p=((T.oo.filter fun x=>decide (bk T.pj x.1=p)).filter fun x=>decide (f≤x.1))++T.A6 f (p+1):=by
 unfold TD.A6
 obtain⟨n,hn⟩:∃n,2 ^ T.pj-p=n+1:=⟨2 ^ T.pj-p-1,by omega⟩
 rw [hn,me,cJ,show 2 ^ T.pj-(p+1)=n by omega]
section
variable {h h' h0 h1 h2 g:Hp} {q:HQ} {s s2:RS} {nd:List di} {m:di} {id tb hn:Nat} {T:TD} {R:RP} {sA:Sl} {ob:Option Nat} {l:List Nm} {S F F' F0:Nat→Prop} {ab c0 c1 p f yl:Nat}
theorem We(c:yT nd T)(k:oH T)(hf:f<18446744073709551616):T.oS f=T.A6 f (bk T.pj f):=by
 have hj:T.pj≤20:=bP (T.Vz T.nw (bQ ..)) c.g.jn
 refine N7 (abl k.pw T.pj) (n:=2 ^ T.pj) (fun x hx=>?_) (ms (Ih (by omega) hf)) fun x _ h=>R1 h
 refine Ih (by omega) ?_
 obtain⟨y,hy,e⟩:=cy.1 (T.sU.mem_iff.1 hx)
 rw [←e]
 exact c.g.hs y hy
theorem qA.HP(p0:qA h q s nd tb hn T)(k:bY S h h')(hS:∀b,S b→q.bR b=.out∧b≠tb∧b≠BF):qA h' q s nd tb hn T :=
 ⟨p0.g.HP k fun b hb=>(hS b hb).1,⟨bF k p0.l.row fun z=>(hS _ z).2.1 rfl,p0.l.out⟩,p0.pos,p0.lt,p0.held,p0.c,⟨bF k p0.tz.row fun z=>(hS _ z).2.2 rfl,p0.tz.out⟩⟩
def afP(h:Hp)(T:TD)(s:RS)(f p:Nat)(J:Nat→(Nat→Prop)→Hp→Prop) (F0:Nat→Prop) (yl c0 c1:Nat) (sA t:Sl) (ab:Nat) (ob:Option Nat) (l:List Nm) (m:Nat) (s0:Value) (s1 s2:Addr) (s4:Sl) (s5 s7:Int) (Qz:Sl) (Va U9:Int) (g2:Hp):Prop :=
 ∃(i:Nat) (dn:List HK) (F:Nat→Prop),i≤l.length∧m=l.length-i∧.func (.yield yl) #[] #[]=s0∧ad c0=s1∧ad c1=s2∧sA=s4∧s5=((2 ^ T.pj:Nat):Int)∧s7=(p:Int)∧t=Qz∧Va=(t.n:Int)∧U9=(i:Int)∧T.oS f=dn++(((l.drop i).map Nm.hk).filter (fun x=>decide (f≤x.1))++T.A6 f (p+1))∧J dn.length F g2∧GL 1 h g2 sA (some ab) (T.lJ.map (TK s))∧¬F ab∧bY F0 h g2∧(∀b,F b→F0 b∨h.size≤b)∧GL 2 h g2 t ob (l.flatMap QR)∧(∀b,ob=some b→¬F b)∧∀y∈l.drop i,eM g2 y.c (y.key.map bv)∧¬F y.c∧h.size≤y.c
theorem ayL(p0:qA h q s nd tb hn T)(k0:oH T)(hf:f<18446744073709551616)(r0:eM h c0 [vp (sa tb)]) (r1:eM h c1 [uv f])
  (hF0:∀b,F0 b→b<h.size∧q.bR b=.out∧b≠tb∧b≠BF∧b≠c0∧b≠c1) (J:Nat→(Nat→Prop)→Hp→Prop) (hJ0:J 0 F0 h)
  (hJF:∀k F g,J k F g→∀b,F b→b<g.size) (hJk:∀k F g g',J k F g→bY N g g'→J k F g')
  (Oo:∀k F g x c,J k F g→(T.oS f)[k]?=some x→eM g c (x.2.map bv)→h.size≤c→¬F c→fK x.2→(∀b,F b→F0 b∨h.size≤b)→bY F0 h g →
   mV PG yl [.agg #[uv x.1,.slice (sa c) x.2.length x.2.length]] g fun v g'=>(v=vb true∧∃F',J (k+1) F' g'∧bY F g g'∧∀b,F' b→F b∨g.size≤b∨b=c)∨(v=vb false∧R (vt #[]) g'))
  (Fj:∀F g,J (T.oS f).length F g→bY F0 h g→R (vt #[]) g) :
  bq PG 107 #[.func (.yield yl) #[] #[],vp (sa c0),vp (sa c1)] h R:=by
 have hj:T.pj≤20:=bP (T.Vz T.nw (bQ ..)) p0.c.g.jn
 have h2p:=o7 hj
 have zd:bk T.pj f<2 ^ T.pj:=Ih (by omega) hf
 have loop:∀(sA:Sl) (ab:Nat) (h1:Hp),bY N h h1→GL 1 h h1 sA (some ab) (T.lJ.map (TK s))→JH (.func (.yield yl) #[] #[]) (ad c0) (ad c1) sA ((2 ^ T.pj:Nat):Int) h1 R:=fun sA ab h1 kh1 xA=>by
  unfold JH
  refine⟨_,(bS (bF kh1 r1 _root_.id) 0).trans rfl,agd (p0.cI kh1).tz hj hf ⟨_,rfl,?_⟩⟩
  refine MM (s4:=sA) (fun m s0 s1 s2 s4 s5 s7 g=>∃(p:Nat) (dn:List HK) (F:Nat→Prop),p≤2 ^ T.pj∧m=2 ^ T.pj-p∧.func (.yield yl) #[] #[]=s0∧ad c0=s1∧ad c1=s2∧sA=s4∧s5=((2 ^ T.pj:Nat):Int)∧s7=(p:Int)∧T.oS f=dn++T.A6 f p∧J dn.length F g∧GL 1 h g sA (some ab) (T.lJ.map (TK s))∧¬F ab∧bY F0 h g∧∀b,F b→F0 b∨h.size≤b) (2 ^ T.pj-bk T.pj f)
   ⟨bk T.pj f,[],F0,ms zd,rfl,rfl,rfl,rfl,rfl,rfl,rfl,We p0.c k0 hf,hJk _ _ _ _ hJ0 kh1,xA,(fun z=>by have:=(hF0 _ z).1;have:=xA.new ab rfl;omega),⟨kh1.1,fun b hb _=>kh1.2 b hb _root_.id⟩,fun b hb=>.inl hb⟩ ?_
  rintro m s0 s1 s2 s4 s5 s7 g0 g ⟨p,dn,F,hp,rfl,rfl,rfl,rfl,rfl,rfl,rfl,eK,hJ,xA2,nab,kg,hFs⟩
  by_cases hpp:p<2 ^ T.pj
  ·have og:qA g q s nd tb hn T:=p0.HP kg fun b hb=>⟨(hF0 b hb).2.1,(hF0 b hb).2.2.1,(hF0 b hb).2.2.2.1⟩
   have r0g:=bF kg r0 fun z=>(hF0 _ z).2.2.2.2.1 rfl
   refine ako og k0 T.Vz hpp xA2 r0g fun t ob l g1 xl el l8 kg1=>?_
   have lt1:=xl.len
   have AJ:l.length≤2097152:=by
    have h1:=congrArg List.length el
    rw [bA]at h1
    have h2:=dT (fun x:HK=>decide (bk T.pj x.1=p)) T.oo
    rw [T.qo]at h2
    have:=p0.len
    omega
   have LW:ab<g.size:=xA2.lt rfl
   rw [Vi T f hpp,←el]at eK
   refine MJ (s4:=sA) (Qz:=t) (afP h T s f p J F0 yl c0 c1 sA t ab ob l) l.length ?_ ?_
   ·have hb:∀b,F b→b<g.size:=hJF _ _ _ hJ
    refine⟨0,dn,F,cP _,rfl,rfl,rfl,rfl,rfl,rfl,rfl,rfl,rfl,rfl,eK,hJk _ _ _ _ hJ kg1,xA2.cI kg1,nab,⟨bP kg.1 kg1.1,fun b hb hn=>(kg1.2 b (bZ hb kg.1) _root_.id).trans (kg.2 b hb hn)⟩,hFs,⟨xl.gl.sl,fun b e=>bP kg.1 (xl.gl.new b e)⟩,fun b e z=>?_,fun y hy=>⟨(xl.row y hy).1,fun z=>?_,bP kg.1 (xl.row y hy).2.1⟩⟩
    ·have:=xl.gl.new b e;have:=hb b z;omega
    ·have:=(xl.row y hy).2.1;have:=hb _ z;omega
   ·clear hJ nab kg kg1 xA2 hFs eK r0g og
    rintro m s0 s1 s2 s4 s5 s7 Qz Va U9 g3 g2 ⟨i,dn,F,hi,rfl,rfl,rfl,rfl,rfl,rfl,rfl,rfl,rfl,rfl,eK,hJ,xA2,nab,kg,hFs,xg,nob,alk⟩
    unfold Ps
    refine ca (fun fE=>?_) fun o5=>?_
    ·have iZ:i<l.length:=by omega
     have hy:l[i]?=some (l[i]'iZ):=br iZ
     have ed:l.drop i=l[i]'iZ::l.drop (i+1):=d8 iZ
     generalize l[i]'iZ=y at hy ed
     obtain⟨b,hb,ha,Dp⟩:=xg.at (o:=i*2+0) (v:=uv y.hs) (by rw [ml yG l i 0 y hy (by omega)];rfl)
     obtain⟨b',fV,_,xO⟩:=xg.at (o:=i*2+1) (v:=.slice (sa y.c) y.key.length y.key.length) (by rw [ml yG l i 1 y hy (by omega)];rfl)
     rw [hb]at fV
     obtain rfl:=bt fV
     obtain⟨arf,nFy,alJ⟩:=alk y (by rw [ed];exact bQ ..)
     have rest:∀y'∈l.drop (i+1),eM g2 y'.c (y'.key.map bv)∧¬F y'.c∧h.size≤y'.c:=fun y' DF=>alk y' (by rw [ed];exact bJ _ DF)
     have hyl:y∈l:=bx hy
     have sep:∀y'∈l.drop (i+1),y'.c≠y.c:=fun y' DF=>by
      have hn:=(xl.CV.sublist ((pN i l).map _))
      rw [ed,cU,cV]at hn
      exact fun e=>hn.1 (cy.2 ⟨y',DF,e⟩)
     refine⟨by omega,cW ha ⟨_,by rw [bu];exact Dp,⟨some (ad y.c),y.key.length,y.key.length⟩,by rw [bu,qJ];exact xO,?_⟩⟩
     refine dh fun Tl e12=>?_
     have k12:bY N g2 Tl:=e12▸cF _ _ _
     have w12:eM Tl g2.size [vu 0,.slice none 0 0]:=e12▸du g2 #[vu 0,.slice none 0 0] 102
     clear e12
     rw [show nb g2=ad g2.size from rfl]
     refine eu w12 (i:=0) rfl (by simp) fun zC w13 k13=>?_
     refine eu w13 (i:=1) (cm _ _) (by simp) fun H1 Ux k14=>?_
     have kk:bY N g2 H1:=cL (cL k12 k13 (fun b hb=>by omega)) k14 (fun b hb=>by omega)
     have Ux:eM H1 g2.size (QR y):=Ux
     clear w12 w13 k12 k13 k14
     have r1':eM H1 c1 [uv f]:=bF kk (bF kg r1 fun z=>(hF0 _ z).2.2.2.2.2 rfl) _root_.id
     have al2:bY F0 h H1:=⟨bP kg.1 kk.1,fun b hb hn=>(kk.2 b (bZ hb kg.1) _root_.id).trans (kg.2 b hb hn)⟩
     have ano:=hJk _ _ _ _ hJ kk
     have asM:=bF kk arf _root_.id
     have alN:∀(dn':List HK) (F':Nat→Prop) (Nr:Hp),T.oS f=dn'++(((l.drop (i+1)).map Nm.hk).filter (fun x=>decide (f≤x.1))++T.A6 f (p+1))→J dn'.length F' Nr→bY F H1 Nr→(∀b,F' b→F b∨H1.size≤b∨b=y.c)→∀J1 n1,FE J1 n1 (afP h T s f p J F0 yl c0 c1 sA t ab ob l) (l.length-i) (.func (.yield yl) #[] #[]) (ad c0) (ad c1) sA ((2 ^ T.pj:Nat):Int) (p:Nat) t (t.n:Int) (i:Nat) false Nr R:=fun dn' F' Nr eK' hJ' k15 hF' J1 n1=>by
      unfold FE
      have Tw:∀b,b<g2.size→¬F b→b≠y.c→¬F' b:=fun b hb hn iS z=>by
       rcases hF' b z with z|z|z
       ·exact hn z
       ·have:=kk.1;omega
       ·exact iS z
      have Lp:bY F g2 Nr:=⟨bP kk.1 k15.1,fun b hb hn=>(k15.2 b (bZ hb kk.1) hn).trans (kk.2 b hb _root_.id)⟩
      refine cj rfl ⟨l.length-(i+1),by omega,i+1,dn',F',iZ,rfl,rfl,rfl,rfl,rfl,rfl,rfl,rfl,rfl,by rw [bU (by omega) (by omega)];rfl,eK',hJ',xA2.eG Lp (fun b e z=>nab (bt e▸z)),?_,?_,fun b z=>?_,xg.eG Lp nob,fun b' e=>?_,fun y' DF=>?_⟩
      ·refine Tw ab (xA2.lt rfl) nab fun e=>?_
       have:=(xl.row y hyl).2.1
       have:=LW
       omega
      ·exact⟨bP kg.1 Lp.1,fun b hb hn=>(Lp.2 b (bZ hb kg.1) fun z=>(hFs b z).elim hn fun h=>by omega).trans (kg.2 b hb hn)⟩
      ·rcases hF' b z with z|z|z
       ·exact hFs b z
       ·exact .inr (bP al2.1 z)
       ·exact .inr (z▸alJ)
      ·exact Tw b' (xg.lt e) (nob b' e) fun e2=>(xl.row y hyl).2.2 (e2▸e)
      ·obtain⟨ry,ny,wy⟩:=rest y' DF
       exact⟨bF Lp ry ny,Tw _ (eE ry) ny (sep y' DF),wy⟩
     refine⟨_,(bS Ux 0).trans rfl,_,(bS r1' 0).trans rfl,ca (fun o5=>?_) fun LI=>?_⟩
     ·have hfy:f≤y.hs:=by omega
      rw [ed,cU,eP,if_pos (decide_eq_true (p:=f≤y.hk.1) hfy)]at eK
      refine⟨_,(bS Ux 0).trans rfl,⟨some (ad y.c),y.key.length,y.key.length⟩,ia Ux rfl,.inr ⟨yl,rfl,?_⟩⟩
      have hk:(T.oS f)[dn.length]?=some y.hk:=by rw [eK,bN (bH _),dD];rfl
      refine(Oo dn.length F H1 y.hk y.c ano hk asM alJ nFy (l8 y hyl) hFs al2).mono fun v Nr hv=>?_
      rcases hv with⟨rfl,F',hJ',k15,hF'⟩|⟨rfl,hR⟩
      ·refine⟨true,rfl,alN (dn++[y.hk]) F' Nr ?_ ?_ k15 hF' _ _⟩
       ·rw [eK];simp
       ·rw [bG];exact hJ'
      ·refine⟨false,rfl,?_⟩
       unfold FE
       exact cr rfl hR
     ·have hfy:¬f≤y.hs:=by omega
      rw [ed,cU,eP,if_neg (by rw [decide_eq_true_eq];exact hfy)]at eK
      exact alN dn F H1 eK ano (bY.refl _ _) (fun b z=>.inl z) _ _
    ·obtain rfl:i=l.length:=by omega
     rw [gv,kI,List.filter_nil,eU]at eK
     exact⟨2 ^ T.pj-(p+1),by omega,p+1,dn,F,hpp,rfl,rfl,rfl,rfl,rfl,rfl,by rw [bU (by omega) (by omega)];rfl,eK,hJ,xA2,nab,kg,hFs⟩
  ·obtain rfl:p=2 ^ T.pj:=by omega
   unfold FD
   rw [SF,eV]at eK
   refine cj (decide_eq_false (by omega)) (Fj F g (by rw [eK];exact hJ) kg)
 refine MN ?_
 unfold RH
 have cc:∀ {g:Hp},bY N h g→cell g (ad c0)=some (vp (sa tb)):=fun k=>(bS (bF k r0 _root_.id) 0).trans rfl
 refine⟨_,cc (bY.refl _ _),bw ⟨_,p0.l.c1,cj ?_ ⟨_,cc (bY.refl _ _),Ea p0.tr (k:=0) rfl rfl ⟨_,rfl,?_⟩⟩⟩⟩
 ·have:=p0.pos
  exact beq_eq_false_iff_ne.2 (by omega)
 refine dh fun h2 e2=>?_
 have k2:bY N h h2:=e2▸cF _ _ _
 have w2:eM h2 h.size [uv (s.fk T.nw.id)]:=e2▸du h #[uv (s.fk T.nw.id)] 27
 clear e2
 rw [show nb h=ad h.size from rfl]
 have p2:=p0.cI k2
 have g2:GL 1 h h2 ⟨some (ad h.size),1,1⟩ (some h.size) [TK s T.nw]:=⟨⟨rfl,nofun,fun b e=>by obtain rfl:=bt e;exact⟨rfl,bH _,[],w2,rfl⟩⟩,fun b e=>by obtain rfl:=bt e;exact bH _⟩
 refine⟨_,cc k2,by omega,_,(bS w2 0).trans rfl,?_⟩
 have okn:=p0.c.arr T.nw (bQ ..)
 refine zh p2.g p2.l okn.n (p2.da okn.i) ⟨_,rfl,_,cc k2,Ea p2.tr (k:=1) rfl rfl ⟨_,rfl,?_⟩⟩
 have en:(((⟨5,T.nw.cs.map lL,[]⟩:di).cY.length:Nat):Int)=((2 ^ T.nw.j:Nat):Int):=by
  show (((T.nw.cs.map lL).length:Nat):Int)=_
  rw [bA,okn.l]
 rw [en]
 cases ho:T.od with
 |none =>
  rw [TD.uV ho,RS.iQ]
  refine cj rfl ?_
  have:=loop ⟨some (ad h.size),1,1⟩ h.size h2 k2 (by unfold TD.lJ;rw [ho];exact g2)
  have e:T.pj=T.nw.j:=by unfold TD.pj;rw [ho]
  rw [e]at this
  exact this
 |some o =>
  rw [TD.qV ho]
  have oko:=p0.c.arr o (by unfold TD.lJ;rw [ho];simp)
  have hh:=p2.da oko.i
  refine cr (by rw [bne_iff_ne];have:=RS.un p2.g.v hh;show (s.fk o.id:Int)≠0;omega) ?_
  refine g2.add (arr:=#[uv (s.fk o.id)]) (h0:=h) k2.1 rfl rfl (fun v hv=>by simp at hv;rcases hv with rfl;rfl) (by show (2*(1+1)+768)*8≤2 ^ 48;omega) (by show 1+1<2 ^ 62;omega) fun a' c' h6 ob6 g6 k6 nw6=>?_
  have k6':bY N h h6:=cL k2 k6 fun b e=>g2.new b e
  have p6:=p0.cI k6'
  refine⟨_,cc k6',zh p6.g p6.l oko.n (p6.da oko.i) ⟨_,rfl,?_⟩⟩
  have eo:(((⟨5,o.cs.map lL,[]⟩:di).cY.length:Nat):Int)=((2 ^ o.j:Nat):Int):=by
   show (((o.cs.map lL).length:Nat):Int)=_
   rw [bA,oko.l]
  rw [eo,aa2]
  cases ob6 with
  |none =>
   have:=g6.sl.nil rfl
   exact absurd this.2.1 (by show ¬(1+1=0);omega)
  |some ab =>
   have:=loop ⟨a',1+1,c'⟩ ab h6 k6' (by unfold TD.lJ;rw [ho];exact g6)
   have e:T.pj=if o.j<T.nw.j then o.j else T.nw.j:=by unfold TD.pj;rw [ho]
   rw [e]at this
   exact this
end
def mR(z:Int):Nat:=if z<1 then 1 else z.toNat
section
variable {h h' h1 h2 g:Hp} {q:HQ} {s s2:RS} {nd:List di} {m:di} {id tb hn:Nat} {T:TD} {R:RP} {a:Sl} {ob:Option Nat} {l:List Nm} {F F0:Nat→Prop} {c0 c1 f yl:Nat} {v0:Value}
theorem AP (hR:∀g,eM g h.size [v0]→eM g (h.size+1) [uv f]→g.size=h.size+2→bY N h g→R (.func (.func 107) #[] #[vp (sa h.size),vp (some (ad (h.size+1)))]) g) {x:OA} (hv:v0=vp x):bq PG 63 #[vp x,uv f] h R:=by
 subst hv
 refine ab2 ?_
 unfold an6
 refine dh fun h1 e1=>dh fun h2 e2=>?_
 have k1:bY N h h1:=e1▸cF _ _ _
 have k2:bY N h1 h2:=e2▸cF _ _ _
 have s1:h1.size=h.size+1:=by rw [e1];simp
 have s2:h2.size=h.size+2:=by rw [e2,iH,s1]
 have w1:eM h1 h.size [vp x]:=e1▸du h #[vp x] _
 have w2:eM h2 h1.size [uv f]:=e2▸du h1 #[uv f] _
 rw [s1]at w2
 have:=hR h2 (bF k2 w1 _root_.id) w2 s2 (k1.trans k2)
 rw [show nb h=ad h.size from rfl,show nb h1=ad (h.size+1)from by unfold nb ad;rw [s1]]
 exact this
theorem MR(l:ti h q tb 0){c0:Nat}(r0:eM h c0 [vp (sa tb)]) {c1:Addr} (hR:R (vt #[]) h):bq PG 107 #[v0,vp (sa c0),vp (some c1)] h R:=by
 refine MN ?_
 unfold RH
 exact⟨_,(bS r0 0).trans rfl,bw ⟨_,l.c1,cr rfl hR⟩⟩
structure C9 (hB:Hp) (K:List HK) (n b5 b6 b7 b8 b9 l db:Nat) (r:Loop) (k:Nat) (F:Nat→Prop) (g:Hp) (a:Sl) (ob:Option Nat) (gw:List Nm) (mP:Nat):Prop where
 r5:eM g b5 [vi (n:Int)]
 r6:∃v,eM g b6 [v]
 r7:∃v,eM g b7 [v]
 r8:eM g b8 [.slice a.a a.n a.c]
 r9:eM g b9 [uv mP]
 lr:g[l]?=some (.loop r)
 dr:g[db]?=some (.deferred (some []))
 bl:BL hB g a ob gw
 k8:∀y∈gw,fK y.key
 el:gw.map (·.key)=(K.take k).map (·.2)
 es:jZ n K 0 []=jZ n (K.drop k) mP ((K.take k).map (·.2))
 fF:∀b,F b↔b=b6∨b=b7∨b=b8∨b=b9∨b=l∨ob=some b∨∃y∈gw,y.c=b
 fb:∀b,b=b5∨b=b6∨b=b7∨b=b8∨b=b9∨b=l∨b=db→ob≠some b∧∀y∈gw,y.c≠b
theorem C9.cI {hB:Hp}{K:List HK}{n b5 b6 b7 b8 b9 l db:Nat}{r:Loop}{k mP:Nat}{gw:List Nm}(x:C9 hB K n b5 b6 b7 b8 b9 l db r k F g a ob gw mP)(kk:bY N g h'):C9 hB K n b5 b6 b7 b8 b9 l db r k F h' a ob gw mP :=
 ⟨bF kk x.r5 _root_.id,x.r6.imp fun _ z=>bF kk z _root_.id,x.r7.imp fun _ z=>bF kk z _root_.id,bF kk x.r8 _root_.id,bF kk x.r9 _root_.id,dv kk x.lr _root_.id,dv kk x.dr _root_.id,x.bl.cI kk,x.k8,x.el,x.es,x.fF,x.fb⟩
theorem C9.flt {hB:Hp}{K:List HK}{n b5 b6 b7 b8 b9 l db:Nat}{r:Loop}{k mP:Nat}{gw:List Nm}(x:C9 hB K n b5 b6 b7 b8 b9 l db r k F g a ob gw mP):∀b,F b→b<g.size:=fun b hb=>by
 obtain⟨_,r6⟩:=x.r6
 obtain⟨_,r7⟩:=x.r7
 rcases(x.fF b).1 hb with rfl|rfl|rfl|rfl|rfl|e|⟨y,hy,rfl⟩
 ·exact eE r6
 ·exact eE r7
 ·exact eE x.r8
 ·exact eE x.r9
 ·exact iJ x.lr
 ·exact x.bl.gl.lt e
 ·exact eE (x.bl.row y hy).1
theorem NO {hB:Hp}{K:List HK}{n b5 b6 b7 b8 b9 l db:Nat}{gl:Nat→Value}{fn:FuncId}{k mP:Nat}{gw:List Nm}{x:HK}{c:Nat}{R:RP}(hd:b5<b6∧b6<b7∧b7<b8∧b8<b9∧b9<db∧db<l)
  (st:C9 hB K n b5 b6 b7 b8 b9 l db (qI (ad b5) (ad b6) (ad b7) (ad b8) (ad b9) gl fn db .ready none) k F g a ob gw mP) (hk:K[k]?=some x) (o0:K.length≤3000000) (rc:eM g c (x.2.map bv)) (hcB:hB.size≤c) (hBg:hB.size≤g.size) (hcF:¬F c) (WI:c≠b5∧c≠b6∧c≠b7∧c≠b8∧c≠b9∧c≠db) (hx8:fK x.2)
  (LH:∀g' a' jK wU Wc,C9 hB K n b5 b6 b7 b8 b9 l db (qI (ad b5) (ad b6) (ad b7) (ad b8) (ad b9) gl fn db .ready none) (k+1) (fun b=>b=b6∨b=b7∨b=b8∨b=b9∨b=l∨jK=some b∨∃y∈wU,y.c=b) g' a' jK wU Wc→bY F g g'→(∀b,jK=some b→ob=some b∨g.size≤b)→(∀y∈wU,y∈gw∨y.c=c)→R (vb true) g')
  (Wp:∀g',jZ n K 0 []=(x.1,gw.map (·.key))→eM g' b6 [uv x.1]→eM g' b7 [.slice a.a a.n a.c]→g'[db]?=some (.deferred (some []))→BL hB g' a ob gw→g'[l]?=some (.loop {qI (ad b5) (ad b6) (ad b7) (ad b8) (ad b9) gl fn db .ready none with state:=.done,pending:=some .ret})→bY F g g'→R (vb false) g') :
  mV PG l [.agg #[uv x.1,.slice (sa c) x.2.length x.2.length]] g R:=by
 have zb:k<K.length:=(bp.1 hk).1
 have ll:gw.length=k:=by
  have:=congrArg List.length st.el
  rw [bA,bA,dm]at this
  omega
 have an:=st.bl.len
 have ed:K.drop k=x::K.drop (k+1):=by
  rw [d8 zb]
  congr 1
  exact bt ((br zb).symm.trans hk)
 have et:K.take (k+1)=K.take k++[x]:=by rw [jP,hk];rfl
 have YU:((K.take k).map (·.2)).length=k:=by rw [bA,dm];omega
 have flt:=st.flt
 refine Xl (pF:=(x.1:Int)) (lf:=⟨some (ad c),x.2.length,x.2.length⟩) st.lr ?_
 unfold Xn
 refine dh fun h1 e1=>?_
 have k1:bY N g h1:=e1▸cF _ _ _
 have w1:eM h1 g.size [vu 0,.slice none 0 0]:=e1▸du g #[vu 0,.slice none 0 0] 102
 clear e1
 rw [show nb g=ad g.size from rfl]
 refine eu w1 (i:=0) rfl (by simp) fun h2 w2 k2=>?_
 refine eu w2 (i:=1) (cm _ _) (by simp) fun h3 w3 k3=>?_
 have w3:eM h3 g.size [uv x.1,.slice (sa c) x.2.length x.2.length]:=w3
 have kk:bY N g h3:=cL (cL k1 k2 fun b hb=>by omega) k3 fun b hb=>by omega
 clear w1 w2 k1 k2 k3
 have s3:=st.cI kk
 have gb:∀b,b<g.size→b≠g.size:=fun b h=>by omega
 have ll3:=iJ s3.lr
 refine⟨_,s3.lr,rfl,dh fun h4 e4=>?_⟩
 have k4:bY (fun b=>b=l) h3 h4:=e4▸hN ll3
 have l4:h4[l]?=some (.loop {qI (ad b5) (ad b6) (ad b7) (ad b8) (ad b9) gl fn db .ready none with state:=.busy}):=by rw [e4];exact t7 ll3
 clear e4
 have nl:∀ {b:Nat} {cs:LV},eM h3 b cs→eM h4 b cs:=fun r=>bF k4 r (jI r s3.lr)
 have r5:=nl s3.r5
 obtain⟨v6,r6⟩:=s3.r6
 obtain⟨v7,r7⟩:=s3.r7
 have r6:=nl r6
 have r7:=nl r7
 have r8:=nl s3.r8
 have r9:=nl s3.r9
 have wi:=nl w3
 have rc4:=nl (bF kk rc _root_.id)
 have d4:=dv k4 s3.dr (by omega)
 have fl:=fun b hb=>st.fb b hb
 have bl4:BL hB h4 a ob gw:=s3.bl.eG k4 fun b e=>by
  obtain rfl:b=l:=e
  exact⟨(fl b (by omega)).1,(fl b (by omega)).2⟩
 have Wg:bY F g h4:=⟨bP kk.1 k4.1,fun b hb hn=>(k4.2 b (bZ hb kk.1) fun e=>hn ((st.fF b).2 (by simp [show b=l from e]))).trans (kk.2 b hb _root_.id)⟩
 have l5:=eE st.r5
 have l6:b6<g.size:=flt b6 ((st.fF b6).2 (by simp))
 have l7:b7<g.size:=flt b7 ((st.fF b7).2 (by simp))
 have l8:=eE st.r8
 have l9:=eE st.r9
 have ld:=iJ st.dr
 have lc:=eE rc
 clear s3 nl w3 kk
 have fM:¬(n≤k∧x.1≠mP)→∃t31:Int,cell h4 (ad g.size)=some (vu t31)∧St h4 (ad b9) (vu t31) fun Aj=>∃Hr:Sl,cell Aj (ad b8)=some (.slice Hr.a Hr.n Hr.c)∧∃Hq:Sl,cell Aj ((ad g.size).add 1)=some (.slice Hq.a Hq.n Hq.c)∧gi (Aj.push (.cells #[.slice Hq.a Hq.n Hq.c] 39)) fun Tl=>im 39 1 24 #[.slice none 0 0] Hr.a Hr.n Hr.c (some (nb Aj)) 1 Tl fun Vq agB agE zC=>St zC (ad b8) (.slice Vq agB agE) fun H1=>Hf l R none H1:=fun Q9=>by
  refine⟨_,(bS wi 0).trans rfl,eu r9 (i:=0) rfl (by simp) fun h5 v9 k5=>?_⟩
  have v9:eM h5 b9 [uv x.1]:=v9
  have v5:=bF k5 r5 (by omega)
  have v6':=bF k5 r6 (by omega)
  have v7':=bF k5 r7 (by omega)
  have v8:=bF k5 r8 (by omega)
  have F5:=bF k5 wi (by omega)
  have vc:=bF k5 rc4 (by omega)
  have l5':=dv k5 l4 (by omega)
  have d5:=dv k5 d4 (by omega)
  have bl5:BL hB h5 a ob gw:=bl4.eG k5 fun b e=>fl b (by omega)
  refine⟨a,(bS v8 0).trans rfl,⟨some (ad c),x.2.length,x.2.length⟩,ia F5 rfl,?_⟩
  have z5:g.size≤h5.size:=bP Wg.1 k5.1
  refine bl5.add (y:=⟨x.1,x.2,c⟩) (bP hBg z5) vc hcB (fun e=>hcF ((st.fF c).2 (by simp [e]))) (fun w hw e=>hcF ((st.fF c).2 (.inr (.inr (.inr (.inr (.inr (.inr ⟨w,hw,e⟩)))))))) (by omega) fun a' c' h6 jK bl6 k6 nw6=>?_
  have nob:∀b,b<g.size→ob≠some b→jK≠some b:=fun b hb ho e=>(nw6 b e).elim ho fun z=>by omega
  have u8:=bF k6 v8 (fl b8 (by omega)).1
  refine eu u8 (i:=0) rfl (by simp) fun h7 w8 k7=>?_
  have bl7:BL hB h7 ⟨a',a.n+1,c'⟩ jK (gw++[⟨x.1,x.2,c⟩]):=bl6.eG k7 fun b e=>by
   obtain rfl:b=b8:=e
   refine⟨nob b (by omega) (fl b (by omega)).1,fun y hy=>?_⟩
   rcases bI.1 hy with hy|hy
   ·exact(fl b (by omega)).2 y hy
   ·rw [bM.1 hy];exact WI.2.2.2.1
  have l6':=dv k6 l5' (fl l (by omega)).1
  have l7':=dv k7 l6' (by omega)
  have ZG:=iJ l7'
  refine⟨_,l7',?_⟩
  generalize Q7:h7.setIfInBounds l _=h8
  have k8:bY (fun b=>b=l) h7 h8:=Q7▸hN ZG
  have l8':h8[l]?=some (.loop (qI (ad b5) (ad b6) (ad b7) (ad b8) (ad b9) gl fn db .ready none)):=by rw [←Q7];exact t7 ZG
  have nl7:∀ {b:Nat} {cs:LV},eM h5 b cs→ob≠some b→b≠b8→eM h8 b cs:=fun r ho hb=>by
   have q1:=bF k7 (bF k6 r ho) hb
   exact bF k8 q1 (jI q1 l7')
  have fB:∀b,b=b5∨b=b6∨b=b7∨b=b8∨b=b9∨b=l∨b=db→jK≠some b∧∀y∈gw++[⟨x.1,x.2,c⟩],y.c≠b:=fun b hb=>by
   have hlg:b<g.size:=by
    have:=iJ st.lr
    rcases hb with rfl|rfl|rfl|rfl|rfl|rfl|rfl<;>assumption
   refine⟨nob b hlg (fl b hb).1,fun y hy=>?_⟩
   rcases bI.1 hy with hy|hy
   ·exact(fl b hb).2 y hy
   ·rw [bM.1 hy]
    show c≠b
    rcases hb with rfl|rfl|rfl|rfl|rfl|rfl|rfl
    ·exact WI.1
    ·exact WI.2.1
    ·exact WI.2.2.1
    ·exact WI.2.2.2.1
    ·exact WI.2.2.2.2.1
    ·exact jI rc st.lr
    ·exact WI.2.2.2.2.2
  refine LH h8 ⟨a',a.n+1,c'⟩ jK (gw++[⟨x.1,x.2,c⟩]) x.1 ⟨nl7 v5 (fl b5 (by omega)).1 (by omega),⟨_,nl7 v6' (fl b6 (by omega)).1 (by omega)⟩,⟨_,nl7 v7' (fl b7 (by omega)).1 (by omega)⟩,bF k8 w8 (jI w8 l7'),nl7 v9 (fl b9 (by omega)).1 (by omega),l8',?_,?_,?_,?_,?_,fun b=>oy,fB⟩ ?_ ?_ ?_
  ·exact dv k8 (dv k7 (dv k6 d5 (fl db (by omega)).1) (by omega)) (by omega)
  ·exact bl7.eG k8 fun b e=>by
    obtain rfl:b=l:=e
    exact fB b (by omega)
  ·intro y hy
   rcases bI.1 hy with hy|hy
   ·exact st.k8 y hy
   ·rw [bM.1 hy];exact hx8
  ·rw [cx,st.el,et,cx];rfl
  ·rw [st.es,ed,et,cx]
   obtain⟨x1,x2⟩:=x
   rw [jZ,if_neg (by rw [YU];exact Q9)]
   rfl
  ·refine⟨bP z5 (bP k6.1 (bP k7.1 k8.1)),fun b hb hn=>?_⟩
   have m:∀z,(b=b6∨b=b7∨b=b8∨b=b9∨b=l∨ob=some b∨∃y∈gw,y.c=b)=z→¬z:=fun z e h=>hn ((st.fF b).2 (e▸h))
   have m:=m _ rfl
   have a1:=Wg.2 b hb hn
   have b1:b<h4.size:=bZ hb Wg.1
   have a2:=k5.2 b b1 fun e=>m (by simp [show b=b9 from e])
   have b2:b<h5.size:=bZ b1 k5.1
   have a3:=k6.2 b b2 fun e=>m (by simp [show ob=some b from e])
   have b3:b<h6.size:=bZ b2 k6.1
   have a4:=k7.2 b b3 fun e=>m (by simp [show b=b8 from e])
   have a5:=k8.2 b (bZ b3 k7.1) fun e=>m (by simp [show b=l from e])
   exact a5.trans (a4.trans (a3.trans (a2.trans a1)))
  ·intro b e
   exact(nw6 b e).imp_right fun z=>bP z5 z
  ·intro y hy
   rcases bI.1 hy with hy|hy
   ·exact .inl hy
   ·rw [bM.1 hy];exact .inr rfl
 refine⟨a,(bS r8 0).trans rfl,_,(bS r5 0).trans rfl,ca (fun o5=>?_) fun fE=>fM fun h=>by omega⟩
 refine⟨_,(bS wi 0).trans rfl,_,(bS r9 0).trans rfl,?_⟩
 by_cases iS:x.1=mP
 ·exact cj (by rw [iS];exact bne_self_eq_false _) (fM fun h=>h.2 iS)
 ·refine cr (by rw [bne_iff_ne];omega) ⟨_,(bS wi 0).trans rfl,a,(bS r8 0).trans rfl,eu r6 (i:=0) rfl (by simp) fun h5 v6' k5=>?_⟩
  have v8:=bF k5 r8 (by omega)
  have v7':=bF k5 r7 (by omega)
  refine⟨⟨a,(bS v8 0).trans rfl,rfl⟩,eu v7' (i:=0) rfl (by simp) fun h6 w7 k6=>?_⟩
  have w6:=bF k6 v6' (by omega)
  have l6':=dv k6 (dv k5 l4 (by omega)) (by omega)
  have ll6:=iJ l6'
  refine⟨_,l6',?_⟩
  generalize Q7:h6.setIfInBounds l _=h8
  have k8:bY (fun b=>b=l) h6 h8:=Q7▸hN ll6
  have l8':h8[l]?=some (.loop {qI (ad b5) (ad b6) (ad b7) (ad b8) (ad b9) gl fn db .ready none with state:=.done,pending:=some .ret}):=by rw [←Q7];exact t7 ll6
  have bl8:BL hB h8 a ob gw:=((bl4.eG k5 fun b e=>fl b (by omega)).eG k6 fun b e=>fl b (by omega)).eG k8 fun b e=>fl b (by omega)
  refine Wp h8 ?_ (bF k8 w6 (jI w6 l6')) (bF k8 w7 (jI w7 l6')) (dv k8 (dv k6 (dv k5 d4 (by omega)) (by omega)) (by omega)) bl8 l8' ?_
  ·rw [st.es,ed,st.el]
   obtain⟨x1,x2⟩:=x
   rw [jZ,if_pos ⟨by rw [YU];omega,iS⟩]
  ·refine⟨bP Wg.1 (bP k5.1 (bP k6.1 k8.1)),fun b hb hn=>?_⟩
   have m:∀z,(b=b6∨b=b7∨b=b8∨b=b9∨b=l∨ob=some b∨∃y∈gw,y.c=b)=z→¬z:=fun z e h=>hn ((st.fF b).2 (e▸h))
   have m:=m _ rfl
   have a1:=Wg.2 b hb hn
   have b1:b<h4.size:=bZ hb Wg.1
   have a2:=k5.2 b b1 fun e=>m (by simp [show b=b6 from e])
   have b2:b<h5.size:=bZ b1 k5.1
   have a3:=k6.2 b b2 fun e=>m (by simp [show b=b7 from e])
   have a5:=k8.2 b (bZ b2 k6.1) fun e=>m (by simp [show b=l from e])
   exact a5.trans (a3.trans (a2.trans a1))
theorem ac3(p0:qA h q s nd tb hn T)(k0:oH T)(hf:f<18446744073709551616)(z:Int)
  (hR:∀a ob gw g,BL h g a ob gw→gw.map (·.key)=(jZ (mR z) (T.oS f) 0 []).2→(∀y∈gw,fK y.key)→bY N h g→R (vt #[uv (jZ (mR z) (T.oS f) 0 []).1,.slice a.a a.n a.c]) g) :
  bq PG 30 #[vp (sa tb),uv f,vi z] h R:=by
 refine RA ?_
 unfold acm
 refine dh fun h1 e1=>dh fun h2 e2=>dh fun h3 e3=>?_
 have k1:bY N h h1:=e1▸cF _ _ _
 have k2:bY N h1 h2:=e2▸cF _ _ _
 have k3:bY N h2 h3:=e3▸cF _ _ _
 have z1:h1.size=h.size+1:=by rw [e1];simp
 have z2:h2.size=h.size+2:=by rw [e2,iH,z1]
 have z3:h3.size=h.size+3:=by rw [e3,iH,z2]
 have w5:eM h1 h.size [vi z]:=e1▸du h #[vi z] _
 have w6:eM h2 h1.size [vu 0]:=e2▸du h1 #[vu 0] _
 have w7:eM h3 h2.size [.slice none 0 0]:=e3▸du h2 #[.slice none 0 0] _
 clear e1 e2 e3
 have w5:=bF (k2.trans k3) w5 _root_.id
 have w6:=bF k3 w6 _root_.id
 rw [show nb h=ad h.size from rfl,show nb h1=ad h1.size from rfl,show nb h2=ad h2.size from rfl]
 have kh3:=k1.trans (k2.trans k3)
 clear k1 k2 k3
 refine⟨_,(bS w5 0).trans rfl,eu w5 (i:=0) rfl (by simp) fun h4 v5 j4=>?_⟩
 have en:(if z<(1:Int)then(1:Int)else z)=(mR z:Int):=by
  unfold mR
  split
  ·rfl
  ·rw [fj (by omega)]
 have v5:eM h4 h.size [vi (mR z:Nat)]:=by rw [←en];exact v5
 have w6:=bF j4 w6 (by omega)
 have w7:=bF j4 w7 (by omega)
 have z4:h3.size≤h4.size:=j4.1
 have kh4:bY N h h4:=cL kh3 j4 fun b e=>by omega
 clear w5 j4
 refine dh fun h5 e5=>dh fun h6 e6=>?_
 have k5:bY N h4 h5:=e5▸cF _ _ _
 have k6:bY N h5 h6:=e6▸cF _ _ _
 have z5:h5.size=h4.size+1:=by rw [e5];simp
 have z6:h6.size=h4.size+2:=by rw [e6,iH,z5]
 have w8:eM h5 h4.size [.slice none 0 0]:=e5▸du h4 #[.slice none 0 0] _
 have w9:eM h6 h5.size [vu 0]:=e6▸du h5 #[vu 0] _
 clear e5 e6
 have w8:=bF k6 w8 _root_.id
 have w5:=bF (k5.trans k6) v5 _root_.id
 have w6:=bF (k5.trans k6) w6 _root_.id
 have w7:=bF (k5.trans k6) w7 _root_.id
 have kh6:=kh4.trans (k5.trans k6)
 rw [show nb h4=ad h4.size from rfl,show nb h5=ad h5.size from rfl]
 clear k5 k6 v5
 refine eu w9 (i:=0) rfl (by simp) fun h7 v9 j7=>?_
 have v9:eM h7 h5.size [uv 0]:=v9
 have w5:=bF j7 w5 (by omega)
 have w6:=bF j7 w6 (by omega)
 have w7:=bF j7 w7 (by omega)
 have w8:=bF j7 w8 (by omega)
 have kh7:bY N h h7:=cL kh6 j7 fun b e=>by omega
 have z7:h6.size≤h7.size:=j7.1
 clear w9 j7 kh6 kh4 kh3
 refine AP (fun h8 c0 c1 z8 k8=>⟨_,rfl,?_⟩) (v0:=vp (sa tb)) rfl
 have w5:=bF k8 w5 _root_.id
 have w6:=bF k8 w6 _root_.id
 have w7:=bF k8 w7 _root_.id
 have w8:=bF k8 w8 _root_.id
 have w9:=bF k8 v9 _root_.id
 have kh8:=kh7.trans k8
 clear v9 k8 kh7
 refine qj (mh.callee 107 (by kernel_rfl)) fun H fn gl kH zH WF GW=>?_
 have w5:=bF kH w5 _root_.id
 have w6:=bF kH w6 _root_.id
 have w7:=bF kH w7 _root_.id
 have w8:=bF kH w8 _root_.id
 have w9:=bF kH w9 _root_.id
 have c0:=bF kH c0 _root_.id
 have c1:=bF kH c1 _root_.id
 have GS:=kh8.trans kH
 have pH:=p0.cI GS
 have zh0:∀b,h.size≤b→q.bR b=.out:=fun b hb=>p0.g.st.fr hb
 have HU:H[h8.size+1]?=some (.loop (qI (ad h.size) (ad h1.size) (ad h2.size) (ad h4.size) (ad h5.size) gl fn h8.size .ready none)):=GW
 clear GW kH kh8
 have tlt:=eE p0.l.row
 have aqr:=eE p0.tz.row
 generalize hb5:h.size=b5 at *
 generalize hb6:h1.size=b6 at *
 generalize hb7:h2.size=b7 at *
 generalize hb8:h4.size=b8 at *
 generalize hb9:h5.size=b9 at *
 generalize atL:h8.size=db at *
 generalize uc:db+1=l at *
 generalize Ot:qI (ad b5) (ad b6) (ad b7) (ad b8) (ad b9) gl fn db .ready none=rec at *
 refine ayL (yl:=l) pH k0 hf c0 c1 (F0:=fun b=>b=b6∨b=b7∨b=b8∨b=b9∨b=l∨(none:Option Nat)=some b∨∃y∈([]:List Nm),y.c=b)
  (fun b hb=>?_) (fun k F g=>∃a ob gw mP,C9 h (T.oS f) (mR z) b5 b6 b7 b8 b9 l db rec k F g a ob gw mP) ?_ (fun k F g ⟨_,_,_,_,x⟩=>x.flt) (fun k F g g' ⟨_,_,_,_,x⟩ kk=>⟨_,_,_,_,x.cI kk⟩) ?_ ?_
 ·have:b=b6∨b=b7∨b=b8∨b=b9∨b=l:=by
   rcases hb with h|h|h|h|h|h|⟨y,hy,_⟩
   ·exact .inl h
   ·exact .inr (.inl h)
   ·exact .inr (.inr (.inl h))
   ·exact .inr (.inr (.inr (.inl h)))
   ·exact .inr (.inr (.inr (.inr h)))
   ·cases h
   ·cases hy
  exact⟨by omega,zh0 b (by omega),by omega,by omega,by omega,by omega⟩
 ·exact⟨⟨none,0,0⟩,none,[],0,w5,⟨_,w6⟩,⟨_,w7⟩,w8,w9,HU,WF,BL.nil _ _,nofun,rfl,by rw [tx];rfl,fun _=>oy,fun _ _=>⟨nofun,nofun⟩⟩
 ·rintro k F g x c ⟨a,ob,gw,mP,x1⟩ hk rc hc hcF h8 Ja kg
  rw [←Ot]at x1
  have hKl:(T.oS f).length≤3000000:=by
   have h2:=dT (fun x:HK=>decide (f≤x.1)) T.oo
   rw [T.qo]at h2
   have:=p0.len
   exact bP h2 (by omega)
  have fE:=eE rc
  have hHg:=kg.1
  refine NO ⟨by omega,by omega,by omega,by omega,by omega,by omega⟩ x1 hk hKl rc (by omega) (by omega) hcF ⟨by omega,by omega,by omega,by omega,by omega,by omega⟩ h8 (fun g' a' jK wU Wc x' kF nw hl=>.inl ⟨rfl,_,⟨a',jK,wU,Wc,Ot▸x'⟩,kF,fun b hb=>?_⟩) fun g' hs r6 r7 hd' bl Ff kF=>.inr ⟨rfl,?_⟩
  ·have:=(x1.fF b)
   rcases hb with h|h|h|h|h|h|⟨y,hy,rfl⟩
   ·exact .inl (this.2 (.inl h))
   ·exact .inl (this.2 (.inr (.inl h)))
   ·exact .inl (this.2 (.inr (.inr (.inl h))))
   ·exact .inl (this.2 (.inr (.inr (.inr (.inl h)))))
   ·exact .inl (this.2 (.inr (.inr (.inr (.inr (.inl h))))))
   ·rcases nw b h with z|z
    ·exact .inl (this.2 (.inr (.inr (.inr (.inr (.inr (.inl z)))))))
    ·exact .inr (.inl z)
   ·rcases hl y hy with z|z
    ·exact .inl ((x1.fF y.c).2 (.inr (.inr (.inr (.inr (.inr (.inr ⟨y,z,rfl⟩)))))))
    ·exact .inr (.inr z)
  ·refine⟨.done,some .ret,Ff,nofun,?_⟩
   have ll:=iJ Ff
   generalize he:g'.setIfInBounds l _=g2
   have k2:bY (fun b=>b=l) g' g2:=he▸hN ll
   have d2:=dv k2 hd' (by omega)
   have fl:=fun b hb=>x1.fb b hb
   have bl2:=bl.eG k2 fun b e=>fl b (by omega)
   have r6':=bF k2 r6 (jI r6 Ff)
   have r7':=bF k2 r7 (jI r7 Ff)
   refine⟨d2,dh fun g3 e3=>?_⟩
   have k3:bY (fun b=>b=db) g2 g3:=e3▸hN (iJ d2)
   clear e3
   have arz:=bF k3 r6' (by omega)
   have ary:=bF k3 r7' (by omega)
   have bl3:=bl2.eG k3 fun b e=>fl b (by omega)
   refine⟨_,(bS arz 0).trans rfl,a,(bS ary 0).trans rfl,?_⟩
   have ahj:bY N h g3:=by
    refine cL (cL (cL (cL (GS) kg fun b hb=>?_) kF fun b hb=>?_) k2 fun b hb=>by omega) k3 fun b hb=>by omega
    ·rcases hb with h|h|h|h|h|h|⟨y,hy,_⟩
     ·omega
     ·omega
     ·omega
     ·omega
     ·omega
     ·cases h
     ·cases hy
    ·rcases Ja b hb with z|z
     ·rcases z with h|h|h|h|h|h|⟨y,hy,_⟩
      ·omega
      ·omega
      ·omega
      ·omega
      ·omega
      ·cases h
      ·cases hy
     ·omega
   have:=hR a ob gw g3 bl3 (by rw [hs]) (fun y hy=>x1.k8 y hy) ahj
   rw [hs]at this
   exact this
 ·rintro F g ⟨a,ob,gw,mP,x1⟩ kg
  have fl:=fun b hb=>x1.fb b hb
  refine⟨.ready,none,by have:=x1.lr;rw [←Ot]at this;exact this,nofun,?_⟩
  have ll:=iJ x1.lr
  generalize he:g.setIfInBounds l _=g2
  have k2:bY (fun b=>b=l) g g2:=he▸hN ll
  clear he
  have d2:=dv k2 x1.dr (by omega)
  obtain⟨v6,r6⟩:=x1.r6
  obtain⟨v7,r7⟩:=x1.r7
  have r6:=bF k2 r6 (by omega)
  have r7:=bF k2 r7 (by omega)
  have r8:=bF k2 x1.r8 (by omega)
  have bl2:=x1.bl.eG k2 fun b e=>fl b (by omega)
  refine⟨a,(bS r8 0).trans rfl,eu r6 (i:=0) rfl (by simp) fun g3 v6' k3=>?_⟩
  have r7:=bF k3 r7 (by omega)
  have r8:=bF k3 r8 (by omega)
  refine⟨⟨a,(bS r8 0).trans rfl,rfl⟩,eu r7 (i:=0) rfl (by simp) fun g4 v7' k4=>?_⟩
  have d4:=dv k4 (dv k3 d2 (by omega)) (by omega)
  refine⟨d4,dh fun g5 e5=>?_⟩
  have k5:bY (fun b=>b=db) g4 g5:=e5▸hN (iJ d4)
  clear e5
  have w6:=bF k5 (bF k4 v6' (by omega)) (by omega)
  have w7:=bF k5 v7' (by omega)
  have bl5:=((bl2.eG k3 fun b e=>fl b (by omega)).eG k4 fun b e=>fl b (by omega)).eG k5 fun b e=>fl b (by omega)
  refine⟨_,(bS w6 0).trans rfl,a,(bS w7 0).trans rfl,?_⟩
  have es:=x1.es
  rw [gv,dE,jZ]at es
  have ahj:bY N h g5:=by
   refine cL (cL (cL (cL (cL GS kg fun b hb=>?_) k2 fun b hb=>by omega) k3 fun b hb=>by omega) k4 fun b hb=>by omega) k5 fun b hb=>by omega
   rcases hb with h|h|h|h|h|h|⟨y,hy,_⟩
   ·omega
   ·omega
   ·omega
   ·omega
   ·omega
   ·cases h
   ·cases hy
  have el:=x1.el
  rw [dE]at el
  have:=hR a ob gw g5 bl5 (by rw [es,el]) (fun y hy=>x1.k8 y hy) ahj
  rw [es]at this
  exact this
end
section
variable {h h' h1 h2 g:Hp} {q:HQ} {s:RS} {nd:List di} {m:di} {id tb hn:Nat} {T:TD} {R:RP} {a:Sl} {ob:Option Nat} {l:List Nm} {F F0:Nat→Prop} {c0 c1 f yl:Nat} {v0:Value}
structure Db (hB:Hp) (K:List HK) (b3 l db:Nat) (r:Loop) (k:Nat) (F:Nat→Prop) (g:Hp) (a:Sl) (ob:Option Nat) (gw:List Nm):Prop where
 r3:eM g b3 [.slice a.a a.n a.c]
 lr:g[l]?=some (.loop r)
 dr:g[db]?=some (.deferred (some []))
 bl:BL hB g a ob gw
 k8:∀y∈gw,fK y.key
 el:gw.map (·.key)=(K.take k).map (·.2)
 fF:∀b,F b↔b=b3∨b=l∨ob=some b∨∃y∈gw,y.c=b
 fb:∀b,b=b3∨b=l∨b=db→ob≠some b∧∀y∈gw,y.c≠b
theorem Db.cI {hB:Hp}{K:List HK}{b3 l db:Nat}{r:Loop}{k:Nat}{gw:List Nm}(x:Db hB K b3 l db r k F g a ob gw)(kk:bY N g h'):Db hB K b3 l db r k F h' a ob gw :=
 ⟨bF kk x.r3 _root_.id,dv kk x.lr _root_.id,dv kk x.dr _root_.id,x.bl.cI kk,x.k8,x.el,x.fF,x.fb⟩
theorem Db.flt {hB:Hp}{K:List HK}{b3 l db:Nat}{r:Loop}{k:Nat}{gw:List Nm}(x:Db hB K b3 l db r k F g a ob gw):∀b,F b→b<g.size:=fun b hb=>by
 rcases(x.fF b).1 hb with rfl|rfl|e|⟨y,hy,rfl⟩
 ·exact eE x.r3
 ·exact iJ x.lr
 ·exact x.bl.gl.lt e
 ·exact eE (x.bl.row y hy).1
theorem Oi {hB:Hp}{K:List HK}{b3 l db:Nat}{gl:Nat→Value}{fn:FuncId}{k:Nat}{gw:List Nm}{x:HK}{c:Nat}{R:RP}(hd:b3<db∧db<l)
  (st:Db hB K b3 l db (ud (ad b3) gl fn db .ready none) k F g a ob gw) (hk:K[k]?=some x) (o0:K.length≤3000000) (rc:eM g c (x.2.map bv)) (hcB:hB.size≤c) (hBg:hB.size≤g.size) (hcF:¬F c) (WI:c≠b3∧c≠db) (hx8:fK x.2)
  (LH:∀g' a' jK wU,Db hB K b3 l db (ud (ad b3) gl fn db .ready none) (k+1) (fun b=>b=b3∨b=l∨jK=some b∨∃y∈wU,y.c=b) g' a' jK wU→bY F g g'→(∀b,jK=some b→ob=some b∨g.size≤b)→(∀y∈wU,y∈gw∨y.c=c)→R (vb true) g') :
  mV PG l [.agg #[uv x.1,.slice (sa c) x.2.length x.2.length]] g R:=by
 have zb:k<K.length:=(bp.1 hk).1
 have ll:gw.length=k:=by
  have:=congrArg List.length st.el
  rw [bA,bA,dm]at this
  omega
 have an:=st.bl.len
 have et:K.take (k+1)=K.take k++[x]:=by rw [jP,hk];rfl
 have flt:=st.flt
 refine Xp (pF:=(x.1:Int)) (lf:=⟨some (ad c),x.2.length,x.2.length⟩) st.lr ?_
 unfold Xr
 refine dh fun h1 e1=>?_
 have k1:bY N g h1:=e1▸cF _ _ _
 have w1:eM h1 g.size [vu 0,.slice none 0 0]:=e1▸du g #[vu 0,.slice none 0 0] 102
 clear e1
 rw [show nb g=ad g.size from rfl]
 refine eu w1 (i:=0) rfl (by simp) fun h2 w2 k2=>?_
 refine eu w2 (i:=1) (cm _ _) (by simp) fun h3 w3 k3=>?_
 have w3:eM h3 g.size [uv x.1,.slice (sa c) x.2.length x.2.length]:=w3
 have kk:bY N g h3:=cL (cL k1 k2 fun b hb=>by omega) k3 fun b hb=>by omega
 clear w1 w2 k1 k2 k3
 have s3:=st.cI kk
 have ll3:=iJ s3.lr
 refine⟨_,s3.lr,rfl,dh fun h4 e4=>?_⟩
 have k4:bY (fun b=>b=l) h3 h4:=e4▸hN ll3
 have l4:h4[l]?=some (.loop {ud (ad b3) gl fn db .ready none with state:=.busy}):=by rw [e4];exact t7 ll3
 clear e4
 have nl:∀ {b:Nat} {cs:LV},eM h3 b cs→eM h4 b cs:=fun r=>bF k4 r (jI r s3.lr)
 have r3:=nl s3.r3
 have wi:=nl w3
 have rc4:=nl (bF kk rc _root_.id)
 have d4:=dv k4 s3.dr (by omega)
 have fl:=fun b hb=>st.fb b hb
 have bl4:BL hB h4 a ob gw:=s3.bl.eG k4 fun b e=>fl b (by omega)
 have Wg:bY F g h4:=⟨bP kk.1 k4.1,fun b hb hn=>(k4.2 b (bZ hb kk.1) fun e=>hn ((st.fF b).2 (by simp [show b=l from e]))).trans (kk.2 b hb _root_.id)⟩
 have l3:=eE st.r3
 have ld:=iJ st.dr
 have lc:=eE rc
 clear s3 nl w3 kk
 refine⟨a,(bS r3 0).trans rfl,⟨some (ad c),x.2.length,x.2.length⟩,ia wi rfl,?_⟩
 refine bl4.add (y:=⟨x.1,x.2,c⟩) (bP hBg Wg.1) rc4 hcB (fun e=>hcF ((st.fF c).2 (by simp [e]))) (fun w hw e=>hcF ((st.fF c).2 (.inr (.inr (.inr ⟨w,hw,e⟩))))) (by omega) fun a' c' h6 jK bl6 k6 nw6=>?_
 have z5:=Wg.1
 have nob:∀b,b<g.size→ob≠some b→jK≠some b:=fun b hb ho e=>(nw6 b e).elim ho fun z=>by omega
 have u8:=bF k6 r3 (fl b3 (by omega)).1
 refine eu u8 (i:=0) rfl (by simp) fun h7 w8 k7=>?_
 have bl7:BL hB h7 ⟨a',a.n+1,c'⟩ jK (gw++[⟨x.1,x.2,c⟩]):=bl6.eG k7 fun b e=>by
  obtain rfl:b=b3:=e
  refine⟨nob b (by omega) (fl b (by omega)).1,fun y hy=>?_⟩
  rcases bI.1 hy with hy|hy
  ·exact(fl b (by omega)).2 y hy
  ·rw [bM.1 hy];exact WI.1
 have l6':=dv k6 l4 (fl l (by omega)).1
 have l7':=dv k7 l6' (by omega)
 have ZG:=iJ l7'
 refine⟨_,l7',?_⟩
 generalize Q7:h7.setIfInBounds l _=h8
 have k8:bY (fun b=>b=l) h7 h8:=Q7▸hN ZG
 have l8':h8[l]?=some (.loop (ud (ad b3) gl fn db .ready none)):=by rw [←Q7];exact t7 ZG
 have fB:∀b,b=b3∨b=l∨b=db→jK≠some b∧∀y∈gw++[⟨x.1,x.2,c⟩],y.c≠b:=fun b hb=>by
  have hlg:b<g.size:=by
   have:=iJ st.lr
   rcases hb with rfl|rfl|rfl<;>assumption
  refine⟨nob b hlg (fl b hb).1,fun y hy=>?_⟩
  rcases bI.1 hy with hy|hy
  ·exact(fl b hb).2 y hy
  ·rw [bM.1 hy]
   show c≠b
   rcases hb with rfl|rfl|rfl
   ·exact WI.1
   ·exact jI rc st.lr
   ·exact WI.2
 refine LH h8 ⟨a',a.n+1,c'⟩ jK (gw++[⟨x.1,x.2,c⟩]) ⟨bF k8 w8 (jI w8 l7'),l8',?_,?_,?_,?_,fun b=>oy,fB⟩ ?_ ?_ ?_
 ·exact dv k8 (dv k7 (dv k6 d4 (fl db (by omega)).1) (by omega)) (by omega)
 ·exact bl7.eG k8 fun b e=>by
   obtain rfl:b=l:=e
   exact fB b (by omega)
 ·intro y hy
  rcases bI.1 hy with hy|hy
  ·exact st.k8 y hy
  ·rw [bM.1 hy];exact hx8
 ·rw [cx,st.el,et,cx];rfl
 ·refine⟨bP z5 (bP k6.1 (bP k7.1 k8.1)),fun b hb hn=>?_⟩
  have m:∀z,(b=b3∨b=l∨ob=some b∨∃y∈gw,y.c=b)=z→¬z:=fun z e h=>hn ((st.fF b).2 (e▸h))
  have m:=m _ rfl
  have a1:=Wg.2 b hb hn
  have b1:b<h4.size:=bZ hb Wg.1
  have a3:=k6.2 b b1 fun e=>m (by simp [show ob=some b from e])
  have b3:b<h6.size:=bZ b1 k6.1
  have a4:=k7.2 b b3 fun e=>m (by simp [e])
  have a5:=k8.2 b (bZ b3 k7.1) fun e=>m (by simp [show b=l from e])
  exact a5.trans (a4.trans (a3.trans a1))
 ·intro b e
  exact(nw6 b e).imp_right fun z=>bP z5 z
 ·intro y hy
  rcases bI.1 hy with hy|hy
  ·exact .inl hy
  ·rw [bM.1 hy];exact .inr rfl
theorem Ae(T:TD):T.oS 0=T.oo:=by
 unfold TD.oS
 exact nY.2 fun x _=>by simp
theorem akv(p0:qA h q s nd tb hn T)(k0:oH T)
  (hR:∀a ob gw g,BL h g a ob gw→(gw.map (·.key)).Perm (T.dc.map (·.key))→(gw.map (·.key)).Pairwise HN→(∀y∈gw,fK y.key)→bY N h g→R (.slice a.a a.n a.c) g) :
  bq PG 26 #[vp (sa tb)] h R:=by
 refine RE ?_
 unfold aco
 refine dh fun h1 e1=>?_
 have k1:bY N h h1:=e1▸cF _ _ _
 have z1:h1.size=h.size+1:=by rw [e1];simp
 have w3:eM h1 h.size [.slice none 0 0]:=e1▸du h #[.slice none 0 0] _
 clear e1
 rw [show nb h=ad h.size from rfl]
 refine AP (f:=0) (fun h8 c0 c1 z8 k8=>⟨_,rfl,?_⟩) (v0:=vp (sa tb)) rfl
 have w3:=bF k8 w3 _root_.id
 have kh8:=k1.trans k8
 clear k1 k8
 refine qj (mh.callee 107 (by kernel_rfl)) fun H fn gl kH zH WF GW=>?_
 have w3:=bF kH w3 _root_.id
 have c0:=bF kH c0 _root_.id
 have c1:=bF kH c1 _root_.id
 have GS:=kh8.trans kH
 have pH:=p0.cI GS
 have zh0:∀b,h.size≤b→q.bR b=.out:=fun b hb=>p0.g.st.fr hb
 have HU:H[h8.size+1]?=some (.loop (ud (ad h.size) gl fn h8.size .ready none)):=GW
 clear GW kH kh8
 have tlt:=eE p0.l.row
 have aqr:=eE p0.tz.row
 have hKl:(T.oS 0).length≤3000000:=by
  rw [Ae,T.qo]
  have:=p0.len
  omega
 generalize hb3:h.size=b3 at *
 generalize atL:h8.size=db at *
 generalize uc:db+1=l at *
 generalize Ot:ud (ad b3) gl fn db .ready none=rec at *
 refine ayL (yl:=l) pH k0 (by decide) c0 c1 (F0:=fun b=>b=b3∨b=l∨(none:Option Nat)=some b∨∃y∈([]:List Nm),y.c=b)
  (fun b hb=>?_) (fun k F g=>∃a ob gw,Db h (T.oS 0) b3 l db rec k F g a ob gw) ?_ (fun k F g ⟨_,_,_,x⟩=>x.flt) (fun k F g g' ⟨_,_,_,x⟩ kk=>⟨_,_,_,x.cI kk⟩) ?_ ?_
 ·have:b=b3∨b=l:=by
   rcases hb with h|h|h|⟨y,hy,_⟩
   ·exact .inl h
   ·exact .inr h
   ·cases h
   ·cases hy
  exact⟨by omega,zh0 b (by omega),by omega,by omega,by omega,by omega⟩
 ·exact⟨⟨none,0,0⟩,none,[],w3,HU,WF,BL.nil _ _,nofun,rfl,fun _=>oy,fun _ _=>⟨nofun,nofun⟩⟩
 ·rintro k F g x c ⟨a,ob,gw,x1⟩ hk rc hc hcF h8 Ja kg
  rw [←Ot]at x1
  have fE:=eE rc
  have hHg:=kg.1
  refine Oi ⟨by omega,by omega⟩ x1 hk hKl rc (by omega) (by omega) hcF ⟨by omega,by omega⟩ h8 fun g' a' jK wU x' kF nw hl=>.inl ⟨rfl,_,⟨a',jK,wU,Ot▸x'⟩,kF,fun b hb=>?_⟩
  have:=(x1.fF b)
  rcases hb with h|h|h|⟨y,hy,rfl⟩
  ·exact .inl (this.2 (.inl h))
  ·exact .inl (this.2 (.inr (.inl h)))
  ·rcases nw b h with z|z
   ·exact .inl (this.2 (.inr (.inr (.inl z))))
   ·exact .inr (.inl z)
  ·rcases hl y hy with z|z
   ·exact .inl ((x1.fF y.c).2 (.inr (.inr (.inr ⟨y,z,rfl⟩))))
   ·exact .inr (.inr z)
 ·rintro F g ⟨a,ob,gw,x1⟩ kg
  have fl:=fun b hb=>x1.fb b hb
  refine⟨.ready,none,by have:=x1.lr;rw [←Ot]at this;exact this,nofun,?_⟩
  have ll:=iJ x1.lr
  generalize he:g.setIfInBounds l _=g2
  have k2:bY (fun b=>b=l) g g2:=he▸hN ll
  clear he
  have d2:=dv k2 x1.dr (by omega)
  have r3:=bF k2 x1.r3 (by omega)
  have bl2:=x1.bl.eG k2 fun b e=>fl b (by omega)
  have el:=x1.el
  rw [dE,Ae]at el
  have ep:(gw.map (·.key)).Perm (T.dc.map (·.key)):=by
   rw [el]
   have:=T.sU.map (·.2)
   rw [fh]at this
   exact this
  have AJ:gw.length<400000000:=by
   have h1:=congrArg List.length el
   rw [bA,bA,T.qo]at h1
   have:=p0.len
   omega
  refine⟨a,(bS r3 0).trans rfl,sortBs bl2 x1.k8 (ep.nodup_iff.2 k0.ku) AJ fun alS g3 bl3 p3 s3 k3=>⟨a,rfl,?_⟩⟩
  have d3:=dv k3 d2 (fl db (by omega)).1
  refine⟨d3,dh fun g5 e5=>?_⟩
  have k5:bY (fun b=>b=db) g3 g5:=e5▸hN (iJ d3)
  clear e5
  have bl5:=bl3.eG k5 fun b e=>(show ob≠some b∧∀y∈alS,y.c≠b from⟨(fl b (by omega)).1,fun y hy=>(fl b (by omega)).2 y (p3.mem_iff.1 hy)⟩)
  refine hR a ob alS g5 bl5 ((p3.map _).trans ep) s3 (fun y hy=>x1.k8 y (p3.mem_iff.1 hy)) ?_
  refine cL (cL (cL (cL GS kg fun b hb=>?_) k2 fun b hb=>by omega) k3 fun b hb=>?_) k5 fun b hb=>by omega
  ·rcases hb with h|h|h|⟨y,hy,_⟩
   ·omega
   ·omega
   ·cases h
   ·cases hy
  ·have:=x1.bl.gl.new b hb
   omega
end
def aon(b a:Int)(h:Hp)(R:RP):Prop:=a≠0∧bX (decide ((Int.tmod b a)<(0:Int))) (R ((vi (wrap .i64 ((Int.tmod b a)+a)):Value)) h) (R ((vi (Int.tmod b a):Value)) h)
theorem acr {a0 a1:Int}{h:Hp}{R:RP}(hF:aon a0 a1 h R):bq PG 21 #[vi a0,vi a1] h R:=iY (lv:=kw) Tryz.func21 hF
def V4(m:Nat):LN:=if m=5 then [3,5]else []
def acj(l:OA)(m:Int)(h:Hp)(R:RP):Prop:=gi (h.push (.cells #[vi m] 3)) fun g=>gi (g.push (.cells #[.slice none 0 0] 37)) fun i=>∃j:Int,cell i (nb h)=some (vi j)∧bX (j==(0:Int)) (∃f:Sl,cell i (nb g)=some (.slice f.a f.n f.c)∧R (.slice f.a f.n f.c:Value) i) (bq PG 50 #[vp l] i fun r e=>∃k:Value,r=k∧yU PG fN k #[12] (SE (sub [1,1,1,0,1,0] (bd Tryz.f33))) (SD (sub [1,1,1,0,1,0] (bd Tryz.f33))) [(3,vp (some (nb h))),(5,vp (some (nb g)))] 22 e (CA (fun d=>∃b:Sl,cell d (nb g)=some (.slice b.a b.n b.c)∧d[e.size]?=some (.deferred (some []))∧gi (d.setIfInBounds e.size (.deferred none)) fun o=>R (.slice b.a b.n b.c:Value) o) (fun d=>d[e.size]?=some (.deferred (some []))∧gi (d.setIfInBounds e.size (.deferred none)) fun p=>R (.slice none 0 0:Value) p) fun id d=>if id=0 then(∃b:Sl,cell d (nb g)=some (.slice b.a b.n b.c)∧d[e.size]?=some (.deferred (some []))∧gi (d.setIfInBounds e.size (.deferred none)) fun q=>R (.slice b.a b.n b.c:Value) q)else False))
def Xk(s3 s5:Addr)(a0:Sl)(l:Nat)(h:Hp)(R:RP):Prop :=
 ∃r:Loop,h[l]?=some (.loop r)∧r.state=.ready∧gi (h.setIfInBounds l (.loop {r with state:=.busy})) fun h1=>∃t13:Sl,cell h1 s5=some (.slice t13.a t13.n t13.c)∧gi (h1.push (.cells #[.slice a0.a a0.n a0.c] 39)) fun h2=>im 39 1 24 #[.slice none 0 0] t13.a t13.n t13.c (some (nb h1)) 1 h2 fun ra3 rn3 rc3 h3=>St h3 s5 (.slice ra3 rn3 rc3) fun h4=>∃t17:Sl,cell h4 s5=some (.slice t17.a t17.n t17.c)∧∃t19:Int,cell h4 s3=some (vi t19)∧bX ((t17.n:Int)==t19) (Hf l R (some (.exit 0)) h4) (Hf l R none h4)
theorem Xj(s3 s5:Addr)(a0:Sl)(l:Nat)(g:Nat→Value)(h:Hp)(R:RP):wE PG fN V4 l (SE (sub [1,1,1,0,1,0] (bd Tryz.f33))) (SD (sub [1,1,1,0,1,0] (bd Tryz.f33))) (lU 22 [(3,vp (some s3)),(5,vp (some s5)),(12,.slice a0.a a0.n a0.c)] g) h R=Xk s3 s5 a0 l h R:=by kernel_rfl
noncomputable def qH(s3 s5:Addr)(g:Nat→Value)(fn:FuncId)(b:Nat)(st:LoopState)(ph:Option Code):Loop:=Dk fn (lU 22 [(3,vp (some s3)),(5,vp (some s5))] g) #[12] (SE (sub [1,1,1,0,1,0] (bd Tryz.f33))) (SD (sub [1,1,1,0,1,0] (bd Tryz.f33))) b st ph
theorem Xi {s3 s5:Addr}{a0:Sl}{l:Nat}{g:Nat→Value}{fn:FuncId}{b:Nat}{ph:Option Code}{h:Hp}{R:RP}(hl:h[l]?=some (.loop (qH s3 s5 g fn b .ready ph))) (hB:Xk s3 s5 a0 l h R):mV PG l [.slice a0.a a0.n a0.c] h R :=
 zJ (lv:=V4) (r:=qH s3 s5 g fn b .ready ph) (env:=lU 22 [(3,vp (some s3)),(5,vp (some s5)),(12,.slice a0.a a0.n a0.c)] g) mixed mh hl rfl (by kernel_rfl) (by kernel_rfl) (by kernel_rfl) (by kernel_rfl) (by kernel_rfl) (by
  show wE PG fN V4 l (SE (sub [1,1,1,0,1,0] (bd Tryz.f33))) (SD (sub [1,1,1,0,1,0] (bd Tryz.f33))) _ h R
  rw [Xj];exact hB)
theorem aci(a0:OA)(a1:Int)(h:Hp)(R:RP):acz PG fN V4 Tryz.f33 (bd Tryz.f33) [] [vp a0,vi a1] h R=acj a0 a1 h R:=by kernel_rfl
theorem Rz {a0:OA}{a1:Int}{h:Hp}{R:RP}(hF:acj a0 a1 h R):bq PG 33 #[vp a0,vi a1] h R :=
 uz (lv:=V4) (ik:=[]) (c:=(bd Tryz.f33)) (args:=[vp a0,vi a1]) mixed mh Tryz.func33 (by kernel_rfl) (by kernel_rfl) (by kernel_rfl) (by rw [aci];exact hF)
end Go.Ev
