/- bytes. No condition. -/
import Derived.Test.YtjigacanjlppiaaGreatDoorQ9
import Derived.Laws.Externs
import Derived.RangeFuncRecord
import Derived.OrdersIn
set_option linter.all false
set_option maxRecDepth 1000000
open Go.IntKind (wrap)
namespace Go.Ev
open Go.Proofs
def i0:LN→LN→Int
 | [],[]=>0
 | [],_::_=>-1
 |_::_,[]=>1
 |x::a,y::b=>if x<y then -1 else if y<x then 1 else i0 a b
theorem Bt:∀a b:LN,i0 a b=- i0 b a
 | [],[]=>rfl
 | [],_::_=>rfl
 |_::_,[]=>rfl
 |x::a,y::b=>by
  unfold i0
  rw [Bt a b]
  by_cases h1:x<y
  ·rw [if_pos h1,if_neg (by omega),if_pos h1]
  ·by_cases h2:y<x
   ·rw [if_neg h1,if_pos h2,if_pos h2];rfl
   ·rw [if_neg h1,if_neg h2,if_neg h2,if_neg h1]
theorem vx:∀a:LN,i0 a a=0
 | []=>rfl
 |x::a=>by unfold i0;rw [if_neg (by omega),if_neg (by omega)];exact vx a
def F8(l:LN):ByteArray:=⟨(l.map Nat.toUInt8).toArray⟩
theorem BN(l:LN):(F8 l).size=l.length:=by unfold F8 ByteArray.size;simp
theorem uH {l:LN}{i:Nat}(h:i<l.length):(F8 l)[i]! = (l.getD i 0).toUInt8:=by
 have hs:i<(F8 l).size:=by rw [BN];exact h
 rw [getElem!_pos (F8 l) i hs,bB,br h]
 show (l.map Nat.toUInt8).toArray[i]'(by simpa using h)=_
 rw [List.getElem_toArray,List.getElem_map]
 rfl
theorem ac1 {x y:Nat}(hx:x<256)(hy:y<256):(x.toUInt8<y.toUInt8)↔x<y:=by
 rw [UInt8.lt_iff_toNat_lt]
 have e1:x.toUInt8.toNat=x:=by rw [Nat.toUInt8,UInt8.toNat_ofNat'];exact fS hx
 have e2:y.toUInt8.toNat=y:=by rw [Nat.toUInt8,UInt8.toNat_ofNat'];exact fS hy
 rw [e1,e2]
theorem ac2 {x y:Nat}(hx:x<256)(hy:y<256):(x.toUInt8=y.toUInt8)↔x=y:=by
 refine⟨fun e=>?_,fun e=>by rw [e]⟩
 have:=congrArg UInt8.toNat e
 have e1:x.toUInt8.toNat=x:=by rw [Nat.toUInt8,UInt8.toNat_ofNat'];exact fS hx
 have e2:y.toUInt8.toNat=y:=by rw [Nat.toUInt8,UInt8.toNat_ofNat'];exact fS hy
 rw [e1,e2]at this
 exact this
theorem Cu:∀(i:Nat) (a b:LN),i≤a.length→i≤b.length→(∀k,k<i→a.getD k 0=b.getD k 0)→i0 a b=i0 (a.drop i) (b.drop i)
 | 0,a,b,_,_,_=>rfl
 |i+1,[],b,h,_,_=>by simp at h
 |i+1,x::a,[],_,h,_=>by simp at h
 |i+1,x::a,y::b,h1,h2,h=>by
  have e:x=y:=h 0 (by omega)
  subst e
  rw [nZ,nZ,←Cu i a b (by simpa using h1) (by simpa using h2) fun k hk=>by have:=h (k+1) (by omega);simpa using this]
  show (if x<x then(-1:Int)else if x<x then 1 else i0 a b)=_
  rw [if_neg (by omega),if_neg (by omega)]
theorem JX {i:Nat}{a b:LN}(ha:i<a.length)(hb:i<b.length)(h:∀k,k<i→a.getD k 0=b.getD k 0)(iS:a.getD i 0≠b.getD i 0):i0 a b=if a.getD i 0<b.getD i 0 then -1 else 1:=by
 rw [Cu i a b (by omega) (by omega) h,d8 ha,d8 hb]
 have e1:a.getD i 0=a[i]:=by rw [bB,br ha];rfl
 have e2:b.getD i 0=b[i]:=by rw [bB,br hb];rfl
 rw [e1,e2]at iS ⊢
 unfold i0
 split
 ·rfl
 ·rw [if_pos (by omega)]
theorem M1 {a b:LN}(h:∀k,k<min a.length b.length→a.getD k 0=b.getD k 0):i0 a b=if a.length<b.length then -1 else if a.length>b.length then 1 else 0:=by
 rw [Cu (min a.length b.length) a b (Nat.min_le_left _ _) (Nat.min_le_right _ _) h]
 by_cases h1:a.length<b.length
 ·rw [if_pos h1,ji (by omega),gv,d8 h1];rfl
 ·by_cases h2:a.length>b.length
  ·rw [if_neg h1,if_pos h2,Nat.min_eq_right (by omega),gv,d8 h2];rfl
  ·rw [if_neg h1,if_neg h2,ji (by omega),gv,gH (by omega)];rfl
theorem acv {a b:LN}(ha:fK a)(hb:fK b):Extern.BytealgCompare.cmp (F8 a) (F8 b)=i0 a b:=by
 have ga:∀i,a.getD i 0<256:=H3 ha
 have gb:∀i,b.getD i 0<256:=H3 hb
 unfold Extern.BytealgCompare.cmp
 rw [BN,BN]
 cases hf:(List.range (min a.length b.length)).find? fun i=>(F8 a)[i]! != (F8 b)[i]! with
 |some i =>
  simp only
  have hm:=ox hf
  have hr:=ip hf
  have hi:=jQ.1 hr
  have Zj:∀k,k<i→a.getD k 0=b.getD k 0:=fun k hk=>by
   obtain⟨_,j,hj,HY,hb4⟩:=List.find?_eq_some_iff_getElem.1 hf
   have HY:j=i:=by simpa using HY
   subst HY
   have:=hb4 k hk
   simp only [List.getElem_range,bne_iff_ne,ne_eq,pQ,Bool.not_eq_eq_eq_not,qN]at this
   rw [uH (by omega),uH (by omega)]at this
   have this:((a.getD k 0).toUInt8 != (b.getD k 0).toUInt8)=false:=this
   have this:(a.getD k 0).toUInt8=(b.getD k 0).toUInt8:=by simpa using this
   exact(ac2 (ga k) (gb k)).1 this
  rw [uH (by omega),uH (by omega)]at hm ⊢
  have hm:(a.getD i 0).toUInt8≠(b.getD i 0).toUInt8:=by simpa using hm
  rw [JX (by omega) (by omega) Zj fun e=>hm (by rw [e])]
  by_cases fE:a.getD i 0<b.getD i 0
  ·rw [if_pos ((ac1 (ga i) (gb i)).2 fE),if_pos fE]
  ·rw [if_neg (fun h=>fE ((ac1 (ga i) (gb i)).1 h)),if_neg fE]
 |none =>
  simp only
  rw [M1 fun k hk=>?_]
  have:=mu.1 hf k (jQ.2 hk)
  rw [uH (by omega),uH (by omega)]at this
  have this:(a.getD k 0).toUInt8=(b.getD k 0).toUInt8:=by simpa using this
  exact(ac2 (ga k) (gb k)).1 this
theorem zn {P:Program}{w:World}:∀(l:LN) (a:Addr) (vG:ByteArray),Da w.heap a (l.map bv)→(Extern.Bytes.loadBytes a l.length vG).run P w=.ok ⟨vG.data++(l.map Nat.toUInt8).toArray⟩ w
 | [],a,vG,_=>by
  show (Pure.pure vG:Sem ByteArray).run P w=_
  rw [cH]
  simp
 |c::l,a,vG,h=>by
  have h0:cell w.heap a=some (bv c):=by have:=h 0 (bv c) rfl;rwa [show a.add 0=a from by cases a with|mk b o s=>cases s<;>rfl]at this
  have ht:Da w.heap (a.add 1) (l.map bv):=fun j v hj=>by rw [qJ,sC];exact h (j+1) v hj
  show (Bind.bind (Go.load a) _:Sem ByteArray).run P w=_
  rw [run_bind,run_load h0]
  show (Extern.Bytes.loadBytes (a.add 1) l.length (vG.push (c:Int).toNat.toUInt8)).run P w=_
  have:=zn (P:=P) l (a.add 1) (vG.push (c:Int).toNat.toUInt8) ht
  rw [bu]at this ⊢
  refine this.trans ?_
  congr 1
  show (⟨(vG.data.push _)++_⟩:ByteArray)=_
  congr 1
  apply gd
  simp
section
variable {h h':Hp} {q:HQ} {s:RS} {b:LN} {id:Nat} {R:RP}
theorem CK {P:Program}{w:World}{a:Sl}{l:LN}(rd:dZ w.heap a.a (l.map bv)) (n:a.n=l.length):(Extern.Bytes.bytesOf (.slice a.a a.n a.c)).run P w=.ok (F8 l) w:=by
 cases ha:a.a with
 |none =>
  rw [ha]at rd
  have e:l=[]:=nX.1 rd
  subst e
  rfl
 |some p =>
  rw [ha]at rd
  rw [n]
  have:=zn (P:=P) (w:=w) l p .empty rd
  refine Eq.trans ?_ (this.trans ?_)
  ·rfl
  ·congr 1
   show (⟨#[]++_⟩:ByteArray)=⟨_⟩
   simp
theorem aiO {a c:Sl}{l m:LN}(ra:dZ h a.a (l.map bv)) (na:a.n=l.length) (b8:fK l) (rc:dZ h c.a (m.map bv)) (nc:c.n=m.length) (c8:fK m) :
  ZE PG 113 #[.slice a.a a.n a.c,.slice c.a c.n c.c] h (vi (i0 l m)):=by
 intro w hw
 subst hw
 rw [run_callFunc_extern (e:=Extern.BytealgCompare.compare) Tryz.func113 (by kernel_rfl) (by kernel_rfl) (by kernel_rfl) (by kernel_rfl)]
 have:(Extern.BytealgCompare.compare #[.slice a.a a.n a.c,.slice c.a c.n c.c]).run PG w=.ok (vi (i0 l m)) w:=by
  have e:Extern.BytealgCompare.compare #[.slice a.a a.n a.c,.slice c.a c.n c.c]=(do
    let x ←Extern.Bytes.bytesOf (.slice a.a a.n a.c)
    let y ←Extern.Bytes.bytesOf (.slice c.a c.n c.c)
    Pure.pure (goInt (Extern.BytealgCompare.cmp x y)):Sem Value):=rfl
  rw [e]
  simp only [run_bind,CK ra na,CK rc nc,cH,acv b8 c8]
  rfl
 rw [this]
 rfl
theorem J5 {a c:Sl}{l m:LN}(ra:dZ h a.a (l.map bv)) (na:a.n=l.length) (b8:fK l) (rc:dZ h c.a (m.map bv)) (nc:c.n=m.length) (c8:fK m) (hR:R (vi (i0 l m)) h) :
  bq PG 65 #[.slice a.a a.n a.c,.slice c.a c.n c.c] h R:=by
 refine ab0 ?_
 unfold an4
 exact⟨_,aiO ra na b8 rc nc c8,hR⟩
theorem PH(x:He h q s)(B:s.P2 id b)(ok:Ko b){c:Sl}{m:LN}(rc:dZ h c.a (m.map bv)) (nc:c.n=m.length) (c8:fK m) (hR:∀h',bY N h h'→R (vt #[vi (i0 b m),vi 0]) h') :
  bq PG 115 #[vp (sa q.hb),uv (s.fk id),.slice c.a c.n c.c] h R:=by
 refine Yy ?_
 unfold afq
 refine QE x B ok fun d h1 row hd k1=>⟨⟨some (ad d),b.length,b.length⟩,_,rfl,cj rfl ?_⟩
 exact J5 (a:=⟨some (ad d),b.length,b.length⟩) (lq row) rfl ok.b8 (fC k1 rc) nc c8 ⟨_,rfl,hR h1 k1⟩
end
def aha(m:Nat):LN:=if m=4 then [0,1,5]else []
def Xy(J1:Nat→Sl→Sl→Int→Hp→Prop)(n1:Nat)(f i:Sl)(b:Int)(g:Nat→Value)(h:Hp)(R:RP):Prop:=bX (decide (b<(f.n:Int))) ((0≤b∧b<(f.n:Int))∧bE f.a fun k=>∃d:Sl,cell h (k.add (b.toNat*1))=some (.slice d.a d.n d.c)∧(0≤b∧b<(i.n:Int))∧bE i.a fun l=>∃e:Sl,cell h (l.add (b.toNat*1))=some (.slice e.a e.n e.c)∧∃j:Int,bq PG 62 #[.slice d.a d.n d.c,.slice e.a e.n e.c] h (fun v h'=>v=(vi j)∧h'=h)∧bX (j != (0:Int)) (R (vb false:Value) h) (∃m,m<n1∧J1 m f i (wrap .i64 (b+(1:Int))) h)) (R (vb true:Value) h)
abbrev aez(R:RP)(s0a:OA)(s0n s0c:Nat)(s1a:OA)(Y7 Y9:Nat)(a:Int)(b:Hp):Prop:=dO (kJ PG fN aha (sub [1,1,0,1,0,0] (bd Tryz.f25))) (dW PG fN aha [1,1,0,1,0] (bd Tryz.f25) [] (eJ PG Tryz.f25 [] R)) [(0,.slice s0a s0n s0c),(1,.slice s1a Y7 Y9),(5,vi a)] 27 b
theorem O4 {R:RP}{s0 s1:Sl}{s5:Int}{h0:Hp}(J:Nat→Sl→Sl→Int→Hp→Prop)(n0:Nat)(hi:J n0 s0 s1 s5 h0)(hr:∀n s0 s1 s5 g h,J n s0 s1 s5 h→Xy  J n s0 s1 s5 g h R):aez R s0.a s0.n s0.c s1.a s1.n s1.c s5 h0:=iz (l:=[(0,.l),(1,.l),(5,.i .i64)]) (J:=J) (n0:=n0) (s0,s1,s5,()) hi (fun n s0 s1 s5 g h=>Xy  J n s0 s1 s5 g h R) hr
def aom(b d:Sl)(h:Hp)(R:RP):Prop:=bX ((b.n:Int) != (d.n:Int)) (R (vb false:Value) h) (aez R b.a b.n b.c d.a d.n d.c 0 h)
theorem acp {a0 a1:Sl}{h:Hp}{R:RP}(hF:aom a0 a1 h R):bq PG 25 #[vl a0,vl a1] h R:=iY (lv:=aha) Tryz.func25 hF
def V6(m:Nat):LN:=if m=8 then [3,4,5,6,7]else []
def Fx(J1:Nat→Sl→Sl→Sl→Int→Int→Hp→Prop)(n1:Nat)(i j b:Sl)(f g:Int)(k:Bool)(h:Hp)(R:RP):Prop:=bX k ((0≤f∧f<(i.n:Int))∧bE i.a fun l=>∃d:Sl,cell h (l.add (f.toNat*1))=some (.slice d.a d.n d.c)∧gi (h.push (.cells #[.slice d.a d.n d.c] 39)) fun o=>im 39 1 24 #[.slice none 0 0] b.a b.n b.c (some (nb h)) 1 o fun p q r s=>∃m,m<n1∧J1 m i j ⟨p,q,r⟩ (wrap .i64 (f+(1:Int))) g s) ((0≤g∧g<(j.n:Int))∧bE j.a fun t=>∃e:Sl,cell h (t.add (g.toNat*1))=some (.slice e.a e.n e.c)∧gi (h.push (.cells #[.slice e.a e.n e.c] 39)) fun u=>im 39 1 24 #[.slice none 0 0] b.a b.n b.c (some (nb h)) 1 u fun v w x y=>∃m,m<n1∧J1 m i j ⟨v,w,x⟩ f (wrap .i64 (g+(1:Int))) y)
def RC(J1:Nat→Sl→Sl→Sl→Int→Int→Hp→Prop)(n1:Nat)(e f g:Sl)(b d:Int)(l:Bool)(h:Hp)(R:RP):Prop:=bX l (bX (d==(f.n:Int)) (Fx J1 n1 e f g b d true h R) (bX (decide (b<(e.n:Int))) ((0≤b∧b<(e.n:Int))∧bE e.a fun m=>∃i:Sl,cell h (m.add (b.toNat*1))=some (.slice i.a i.n i.c)∧(0≤d∧d<(f.n:Int))∧bE f.a fun o=>∃j:Sl,cell h (o.add (d.toNat*1))=some (.slice j.a j.n j.c)∧∃k:Int,bq PG 62 #[.slice i.a i.n i.c,.slice j.a j.n j.c] h (fun v h'=>v=(vi k)∧h'=h)∧Fx J1 n1 e f g b d (decide (k≤(0:Int))) h R) (Fx J1 n1 e f g b d false h R))) (R (.slice g.a g.n g.c:Value) h)
def Xo(J1:Nat→Sl→Sl→Sl→Int→Int→Hp→Prop)(n1:Nat)(a b e:Sl)(c d:Int)(g:Nat→Value)(h:Hp)(R:RP):Prop:=bX (decide (c<(a.n:Int))) (RC J1 n1 a b e c d true h R) (RC J1 n1 a b e c d (decide (d<(b.n:Int))) h R)
abbrev aol(R:RP)(s3a:OA)(s3n s3c:Nat)(s4a:OA)(s4n s4c:Nat)(s5a:OA)(s5n s5c:Nat)(a b:Int)(c:Hp):Prop:=dO (kJ PG fN V6 (sub [1,1,1,1,1,1,1,0,0,0] (bd Tryz.f27))) (dW PG fN V6 [1,1,1,1,1,1,1,0,0] (bd Tryz.f27) [] (eJ PG Tryz.f27 [] R)) [(3,.slice s3a s3n s3c),(4,.slice s4a s4n s4c),(5,.slice s5a s5n s5c),(6,vi a),(7,vi b)] 79 c
theorem OZ {R:RP}{s3 s4 s5:Sl}{s6 s7:Int}{h0:Hp}(J:Nat→Sl→Sl→Sl→Int→Int→Hp→Prop)(n0:Nat)(hi:J n0 s3 s4 s5 s6 s7 h0)(hr:∀n s3 s4 s5 s6 s7 g h,J n s3 s4 s5 s6 s7 h→Xo  J n s3 s4 s5 s6 s7 g h R):aol R s3.a s3.n s3.c s4.a s4.n s4.c s5.a s5.n s5.c s6 s7 h0:=iz (l:=[(3,.l),(4,.l),(5,.l),(6,.i .i64),(7,.i .i64)]) (J:=J) (n0:=n0) (s3,s4,s5,s6,s7,()) hi (fun n s3 s4 s5 s6 s7 g h=>Xo  J n s3 s4 s5 s6 s7 g h R) hr
def ais(b:Sl)(h:Hp)(R:RP):Prop:=bX (decide ((b.n:Int)<(2:Int))) (bq PG 66 #[.slice b.a b.n b.c] h fun r i=>∃d:Sl,r=.slice d.a d.n d.c∧R (.slice d.a d.n d.c:Value) i) ((2:Int)≠0∧(0≤(wrap .i64 (Int.tdiv (b.n:Int) (2:Int)))∧(wrap .i64 (Int.tdiv (b.n:Int) (2:Int)))≤(b.c:Int))∧(0≤(0:Int)∧(0:Int)≤(wrap .i64 (Int.tdiv (b.n:Int) (2:Int))))∧bq PG 27 #[.slice (if b.c=(0:Int).toNat then b.a else Option.map (fun x=>x.add ((0:Int).toNat*1)) b.a) ((wrap .i64 (Int.tdiv (b.n:Int) (2:Int))).toNat-(0:Int).toNat) (b.c-(0:Int).toNat)] h fun r j=>∃e:Sl,r=.slice e.a e.n e.c∧(2:Int)≠0∧(0≤(wrap .i64 (Int.tdiv (b.n:Int) (2:Int)))∧(wrap .i64 (Int.tdiv (b.n:Int) (2:Int)))≤(b.n:Int))∧bq PG 27 #[.slice (if b.c=(wrap .i64 (Int.tdiv (b.n:Int) (2:Int))).toNat then b.a else Option.map (fun x=>x.add ((wrap .i64 (Int.tdiv (b.n:Int) (2:Int))).toNat*1)) b.a) (b.n-(wrap .i64 (Int.tdiv (b.n:Int) (2:Int))).toNat) (b.c-(wrap .i64 (Int.tdiv (b.n:Int) (2:Int))).toNat)] j fun r g=>∃f:Sl,r=.slice f.a f.n f.c∧(0≤(0:Int)∧(0:Int)≤(b.n:Int))∧(b.n:Int)<2 ^ 62∧(24:Nat)*(b.n:Int)≤2 ^ 48∧gi (g.push (.cells (ja #[.slice none 0 0] ((b.n:Int).toNat*1)) 39)) fun k=>dO (kJ PG fN V6 (sub [1,1,1,1,1,1,1,0,0,0] (bd Tryz.f27))) (dW PG fN V6 [1,1,1,1,1,1,1,0,0] (bd Tryz.f27) [] (eJ PG Tryz.f27 [] R)) [(3,.slice e.a e.n e.c),(4,.slice f.a f.n f.c),(5,.slice (some (nb g)) ((0:Int).toNat) ((b.n:Int).toNat)),(6,vi 0),(7,vi 0)] 79 k)
theorem RD {a0:Sl}{h:Hp}{R:RP}(hF:ais a0 h R):bq PG 27 #[vl a0] h R:=iY (lv:=V6) Tryz.func27 hF
def aoe(b d:Sl)(h:Hp)(R:RP):Prop:=bq PG 62 #[.slice b.a b.n b.c,.slice d.a d.n d.c] h fun r f=>∃e:Int,r=vi e∧R ((vb (e==(0:Int)):Value)) f
theorem ab9 {a0 a1:Sl}{h:Hp}{R:RP}(hF:aoe a0 a1 h R):bq PG 51 #[vl a0,vl a1] h R:=iY (lv:=kw) Tryz.func51 hF
def att(e:Sl)(d:ByteArray)(h:Hp)(R:RP):Prop:=d.size<2 ^ 62∧∀c7:Nat,d.size≤c7→c7<2 ^ 63→gi (h.push (.cells ((d.data.map fun b=>Value.int .u8 b.toNat)++Array.replicate (c7-d.size) (.int .u8 0)) 5 (c7,c7+1))) fun g=>bq PG 51 #[.slice e.a e.n e.c,.slice (some (nb h)) d.size c7] g fun r i=>∃f:Bool,r=.bool f∧R (.bool f:Value) i
theorem apu {a0:Sl}{a1:ByteArray}{h:Hp}{R:RP}(hF:att a0 a1 h R):bq PG 56 #[vl a0,.string a1] h R:=iY (lv:=kw) Tryz.func56 hF
def V3(m:Nat):LN:=if m=2 then [0,1,5]else []
def Md(J1:Nat→Sl→Sl→Int→Hp→Prop)(n1:Nat)(c d:Sl)(b:Int)(j:Bool)(h:Hp)(R:RP):Prop:=bX j ((0≤b∧b<(c.n:Int))∧bE c.a fun k=>∃e:Int,cell h (k.add (b.toNat*1))=some (.int .u8 e)∧(0≤b∧b<(d.n:Int))∧bE d.a fun l=>∃f:Int,cell h (l.add (b.toNat*1))=some (.int .u8 f)∧bX (decide (e<f)) (R ((vi (-1):Value)) h) ((0≤b∧b<(c.n:Int))∧bE c.a fun o=>∃g:Int,cell h (o.add (b.toNat*1))=some (.int .u8 g)∧(0≤b∧b<(d.n:Int))∧bE d.a fun p=>∃i:Int,cell h (p.add (b.toNat*1))=some (.int .u8 i)∧bX (decide (g>i)) (R (vi 1:Value) h) (∃m,m<n1∧J1 m c d (wrap .i64 (b+(1:Int))) h))) (bX (decide ((c.n:Int)<(d.n:Int))) (R ((vi (-1):Value)) h) (bX (decide ((c.n:Int)>(d.n:Int))) (R (vi 1:Value) h) (R (vi 0:Value) h)))
def Xc(J1:Nat→Sl→Sl→Int→Hp→Prop)(n1:Nat)(b c:Sl)(a:Int)(g:Nat→Value)(h:Hp)(R:RP):Prop:=bX (decide (a<(b.n:Int))) (Md J1 n1 b c a (decide (a<(c.n:Int))) h R) (Md J1 n1 b c a false h R)
abbrev an8(R:RP)(s0a:OA)(s0n s0c:Nat)(s1a:OA)(Y7 Y9:Nat)(a:Int)(b:Hp):Prop:=dO (kJ PG fN V3 (sub [1,0,1,0,0] (bd Tryz.f62))) (dW PG fN V3 [1,0,1,0] (bd Tryz.f62) [] (eJ PG Tryz.f62 [] R)) [(0,.slice s0a s0n s0c),(1,.slice s1a Y7 Y9),(5,vi a)] 46 b
theorem OV {R:RP}{s0 s1:Sl}{s5:Int}{h0:Hp}(J:Nat→Sl→Sl→Int→Hp→Prop)(n0:Nat)(hi:J n0 s0 s1 s5 h0)(hr:∀n s0 s1 s5 g h,J n s0 s1 s5 h→Xc  J n s0 s1 s5 g h R):an8 R s0.a s0.n s0.c s1.a s1.n s1.c s5 h0:=iz (l:=[(0,.l),(1,.l),(5,.i .i64)]) (J:=J) (n0:=n0) (s0,s1,s5,()) hi (fun n s0 s1 s5 g h=>Xc  J n s0 s1 s5 g h R) hr
def an7(b d:Sl)(h:Hp)(R:RP):Prop:=dO (kJ PG fN V3 (sub [1,0,1,0,0] (bd Tryz.f62))) (dW PG fN V3 [1,0,1,0] (bd Tryz.f62) [] (eJ PG Tryz.f62 [] R)) [(0,.slice b.a b.n b.c),(1,.slice d.a d.n d.c),(5,vi 0)] 46 h
theorem ab3 {a0 a1:Sl}{h:Hp}{R:RP}(hF:an7 a0 a1 h R):bq PG 62 #[vl a0,vl a1] h R:=iY (lv:=V3) Tryz.func62 hF
def V2(m:Nat):LN:=if m=3 then [0,3,4]else []
def Mc(J1:Nat→Sl→Sl→Int→Hp→Prop)(n1:Nat)(i d:Sl)(b:Int)(g:Nat→Value)(h:Hp)(R:RP):Prop:=bX (decide (b<(i.n:Int))) ((0≤b∧b<(i.n:Int))∧bE i.a fun j=>∃e:Sl,cell h (j.add (b.toNat*1))=some (.slice e.a e.n e.c)∧bq PG 106 #[.slice e.a e.n e.c] h fun r k=>∃f:Sl,r=.slice f.a f.n f.c∧(0≤b∧b<(d.n:Int))∧bE d.a fun l=>St k (l.add (b.toNat*1)) (.slice f.a f.n f.c) fun o=>∃m,m<n1∧J1 m i d (wrap .i64 (b+(1:Int))) o) (R (.slice d.a d.n d.c:Value) h)
abbrev an3(R:RP)(s0a:OA)(s0n s0c:Nat)(s3a:OA)(s3n s3c:Nat)(a:Int)(b:Hp):Prop:=dO (kJ PG fN V2 (sub [1,1,0,1,0,0] (bd Tryz.f66))) (dW PG fN V2 [1,1,0,1,0] (bd Tryz.f66) [] (eJ PG Tryz.f66 [] R)) [(0,.slice s0a s0n s0c),(3,.slice s3a s3n s3c),(4,vi a)] 23 b
theorem Fv {R:RP}{s0 s3:Sl}{s4:Int}{h0:Hp}(J:Nat→Sl→Sl→Int→Hp→Prop)(n0:Nat)(hi:J n0 s0 s3 s4 h0)(hr:∀n s0 s3 s4 g h,J n s0 s3 s4 h→Mc  J n s0 s3 s4 g h R):an3 R s0.a s0.n s0.c s3.a s3.n s3.c s4 h0:=iz (l:=[(0,.l),(3,.l),(4,.i .i64)]) (J:=J) (n0:=n0) (s0,s3,s4,()) hi (fun n s0 s3 s4 g h=>Mc  J n s0 s3 s4 g h R) hr
def an1(b:Sl)(h:Hp)(R:RP):Prop:=(0≤(b.n:Int)∧(b.n:Int)≤(b.n:Int))∧(b.n:Int)<2 ^ 62∧(24:Nat)*(b.n:Int)≤2 ^ 48∧gi (h.push (.cells (ja #[.slice none 0 0] ((b.n:Int).toNat*1)) 39)) fun d=>dO (kJ PG fN V2 (sub [1,1,0,1,0,0] (bd Tryz.f66))) (dW PG fN V2 [1,1,0,1,0] (bd Tryz.f66) [] (eJ PG Tryz.f66 [] R)) [(0,.slice b.a b.n b.c),(3,.slice (some (nb h)) ((b.n:Int).toNat) ((b.n:Int).toNat)),(4,vi 0)] 23 d
theorem abZ {a0:Sl}{h:Hp}{R:RP}(hF:an1 a0 h R):bq PG 66 #[vl a0] h R:=iY (lv:=V2) Tryz.func66 hF
def afw(b:Sl)(h:Hp)(R:RP):Prop:=(0≤(b.n:Int)∧(b.n:Int)≤(b.n:Int))∧(b.n:Int)<2 ^ 62∧(1:Nat)*(b.n:Int)≤2 ^ 48∧gi (h.push (.cells (ja #[.int .u8 0] ((b.n:Int).toNat*1)) 5)) fun c=>RU 1 (some (nb h)) ((b.n:Int).toNat) b.a b.n c fun rk d=>R ((.slice (some (nb h)) ((b.n:Int).toNat) ((b.n:Int).toNat):Value)) d
theorem YH {a0:Sl}{h:Hp}{R:RP}(hF:afw a0 h R):bq PG 106 #[vl a0] h R:=iY (lv:=kw) Tryz.func106 hF
section
variable {h h' h2:Hp} {q:HQ} {b:LN} {R:RP}
theorem ug:∀ {a b:LN},i0 a b=0→a=b
 | [],[],_=>rfl
 | [],_::_,h=>by unfold i0 at h;omega
 |_::_,[],h=>by unfold i0 at h;omega
 |x::a,y::b,h=>by
  unfold i0 at h
  split at h
  ·omega
  ·split at h
   ·omega
   ·rw [ug h,show x=y by omega]
theorem RW {a c:Sl}{l m:LN}(ha:dZ h a.a (l.map bv)) (hb:dZ h c.a (m.map bv)) (na:a.n=l.length) (nb:c.n=m.length) (hn:l.length<9223372036854775807) (hR:R (vi (i0 l m)) h) :
  bq PG 62 #[.slice a.a a.n a.c,.slice c.a c.n c.c] h R:=by
 refine ab3 ?_
 unfold an7
 refine OV (s0:=a) (s1:=c) (fun q s0 s1 s5 h'=>∃i:Nat,i≤l.length∧i≤m.length∧(∀k,k<i→l.getD k 0=m.getD k 0)∧q=l.length-i∧a=s0∧c=s1∧s5=(i:Int)∧h=h') l.length ⟨0,cP _,cP _,nofun,rfl,rfl,rfl,rfl,rfl⟩ ?_
 rintro q s0 s1 s5 g0 h2 ⟨i,hi,hi2,abe,rfl,rfl,rfl,rfl,rfl⟩
 have Fj:∀J,(l.length≤i∨m.length≤i)→Md J (l.length-i) a c (i:Int) false h R:=fun J he=>by
  have e:=M1 (a:=l) (b:=m) fun k hk=>abe k (by omega)
  rw [e]at hR
  unfold Md
  refine cj rfl (ca (fun h1=>?_) fun h1=>ca (fun h2=>?_) fun h2=>?_)
  ·rw [if_pos (by omega)]at hR;exact hR
  ·rw [if_neg (by omega),if_pos (by omega)]at hR;exact hR
  ·rw [if_neg (by omega),if_neg (by omega)]at hR;exact hR
 unfold Xc
 refine ca (fun fE=>?_) (fun fE=>Fj _ (by omega))
 have iZ:i<l.length:=by omega
 by_cases him:i<m.length
 ·rw [decide_eq_true (show (i:Int)<(c.n:Int)by omega)]
  have e0:(l.map bv)[i]?=some (bv (l.getD i 0)):=by rw [bD,bB,br iZ];rfl
  have e1:(m.map bv)[i]?=some (bv (m.getD i 0)):=by rw [bD,bB,br him];rfl
  obtain⟨p,hp,cp⟩:=ni ha e0
  obtain⟨p',HV,cp'⟩:=ni hb e1
  unfold Md
  have rp:cell h (p.add ((i:Int).toNat*1))=some (.int .u8 (l.getD i 0:Int)):=by rw [bu,cQ];exact cp
  have wR:cell h (p'.add ((i:Int).toNat*1))=some (.int .u8 (m.getD i 0:Int)):=by rw [bu,cQ];exact cp'
  refine cr rfl ⟨⟨by omega,fE⟩,yV hp ⟨_,rp,⟨by omega,by omega⟩,yV HV ⟨_,wR,ca (fun hl=>?_) fun hl=>⟨⟨by omega,fE⟩,yV hp ⟨_,rp,⟨by omega,by omega⟩,yV HV ⟨_,wR,ca (fun hg=>?_) fun hg=>?_⟩⟩⟩⟩⟩⟩
  ·rw [JX iZ him abe (by omega),if_pos (by omega)]at hR;exact hR
  ·rw [JX iZ him abe (by omega),if_neg (by omega)]at hR;exact hR
  ·refine⟨l.length-(i+1),by omega,i+1,iZ,him,fun k hk=>?_,rfl,rfl,rfl,?_,rfl⟩
   ·by_cases hki:k=i
    ·subst hki;omega
    ·exact abe k (by omega)
   ·rw [bU (by omega) (by omega)];rfl
 ·rw [decide_eq_false (show ¬(i:Int)<(c.n:Int)by omega)]
  exact Fj _ (.inr (by omega))
end
theorem qx:∀ {a b c:LN},i0 a b<0→i0 b c<0→i0 a c<0
 | [],[],_,h,_=>by unfold i0 at h;omega
 | [],_::_,[],_,h=>by unfold i0 at h;omega
 | [],_::_,_::_,_,_=>by unfold i0;omega
 |_::_,[],_,h,_=>by unfold i0 at h;omega
 |_::_,_::_,[],_,h=>by unfold i0 at h;omega
 |x::a,y::b,z::c,h1,h2=>by
  unfold i0 at h1 h2 ⊢
  by_cases e1:x<y
  ·by_cases e2:y<z
   ·rw [if_pos (by omega)];omega
   ·rw [if_neg e2]at h2
    by_cases e3:y>z
    ·rw [if_pos e3]at h2;omega
    ·rw [if_pos (by omega)];omega
  ·rw [if_neg e1]at h1
   by_cases e3:x>y
   ·rw [if_pos e3]at h1;omega
   ·rw [if_neg e3]at h1
    by_cases e2:y<z
    ·rw [if_pos (by omega)];omega
    ·rw [if_neg e2]at h2
     by_cases e4:y>z
     ·rw [if_pos e4]at h2;omega
     ·rw [if_neg e4]at h2
      rw [if_neg (by omega),if_neg (by omega)]
      exact qx h1 h2
theorem yo(a:LN):¬i0 a a<0:=by rw [vx];omega
theorem wh {a b:LN}(h:a≠b):i0 a b<0∨i0 b a<0:=by
 have h1:i0 a b≠0:=fun e=>h (ug e)
 have h2:=Bt a b
 omega
abbrev HK:=Nat × LN
def hkC(a b:HK):Int:=if a.1<b.1 then -1 else if b.1<a.1 then 1 else i0 a.2 b.2
def kV(a b:HK):Prop:=hkC a b<0
instance (a b:HK):Decidable (kV a b):=inferInstanceAs (Decidable (_<_))
theorem qZ {a b:HK}:kV a b↔a.1<b.1∨(a.1=b.1∧i0 a.2 b.2<0):=by
 unfold kV hkC
 split
 ·exact⟨fun _=>.inl (by omega),fun _=>by omega⟩
 ·split
  ·exact⟨fun h=>by omega,fun h=>by omega⟩
  ·exact⟨fun h=>.inr ⟨by omega,h⟩,fun h=>h.elim (fun h=>by omega) fun h=>h.2⟩
theorem Bh(a:HK):¬kV a a:=fun h=>by
 rcases qZ.1 h with h|h
 ·omega
 ·exact yo _ h.2
theorem nt {a b c:HK}(h1:kV a b)(h2:kV b c):kV a c:=by
 rw [qZ]at *
 rcases h1 with h1|⟨h1,g1⟩<;>rcases h2 with h2|⟨h2,g2⟩
 ·exact .inl (by omega)
 ·exact .inl (by omega)
 ·exact .inl (by omega)
 ·exact .inr ⟨by omega,qx g1 g2⟩
theorem Fg {a b:HK}(h1:kV a b)(h2:kV b a):False:=Bh _ (nt h1 h2)
theorem qt {a b:HK}(h:a≠b):kV a b∨kV b a:=by
 rw [qZ,qZ]
 by_cases e:a.1=b.1
 ·have:a.2≠b.2:=fun e2=>h (Prod.ext e e2)
  rcases wh this with h|h
  ·exact .inl (.inr ⟨e,h⟩)
  ·exact .inr (.inr ⟨e.symm,h⟩)
 ·omega
theorem Cb {a b:List HK}(p:a.Perm b)(ha:a.Pairwise kV)(hb:b.Pairwise kV):a=b:=BW p (fun _ _ _ _ h1 h2=>Fg h1 h2) ha hb
def Ah(l:List HK):List HK:=l.mergeSort fun a b=>decide (¬kV b a)
theorem oU(l:List HK):(Ah l).Perm l:=List.mergeSort_perm _ _
theorem Cc {l:List HK}(hn:l.Nodup):(Ah l).Pairwise kV:=by
 have h:=List.pairwise_mergeSort (le:=fun a b:HK=>decide (¬kV b a)) (fun a b c h1 h2=>by
  simp only [decide_eq_true_eq]at *
  intro h
  by_cases e:b=a
  ·subst e;exact h2 h
  ·rcases qt e with h3|h3
   ·exact h1 h3
   ·exact h2 (nt h h3)) (fun a b=>by
  simp only [rM,decide_eq_true_eq]
  by_cases h:kV b a
  ·exact .inr fun h2=>Fg h h2
  ·exact .inl h) l
 have Tc:(Ah l).Nodup:=(oU l).nodup_iff.2 hn
 have h2:(Ah l).Pairwise fun a b=>a≠b∧¬kV b a:=(pP Tc h).imp fun {a b} hh=>⟨hh.1,by simpa using hh.2⟩
 exact h2.imp fun {a b} hh=>(qt hh.1).resolve_right hh.2
theorem zx {α β:Type}{f:α→β}:∀ {l:List α},(l.map f).Nodup→l.Nodup
 | [],_=>gQ
 |x::l,h=>by
  rw [cU,cV]at h
  exact cV.2 ⟨fun hx=>h.1 (cy.2 ⟨x,hx,rfl⟩),zx h.2⟩
def iM.hk(x:iM):HK:=(x.hs,x.key)
def TD.oo(T:TD):List HK:=Ah (T.dc.map iM.hk)
theorem oH.WA {T:TD}(k:oH T):(T.dc.map iM.hk).Nodup:=by
 have h:=k.ku
 have e:T.dc.map (·.key)=(T.dc.map iM.hk).map (·.2):=by rw [fh];rfl
 rw [e]at h
 exact zx h
theorem oH.pw {T:TD}(k:oH T):T.oo.Pairwise kV:=Cc k.WA
theorem TD.sU(T:TD):T.oo.Perm (T.dc.map iM.hk):=oU _
theorem TD.qo(T:TD):T.oo.length=T.dc.length:=by rw [T.sU.length_eq,bA]
theorem abl {l:List HK}(h:l.Pairwise kV)(j:Nat):l.Pairwise fun x y=>bk j x.1≤bk j y.1:=h.imp fun {a b} hh=>R1 (by
 rcases qZ.1 hh with h|h
 ·exact ms h
 ·exact Nat.le_of_eq h.1)
theorem Fp {α:Type}{cs:List (List α)} {f:α→Bool} {a n:Nat} (h:∀(i:Nat) (c:List α),cs[i]?=some c→∀x∈c,(f x=true↔a≤i∧i<a+n)):cs.flatten.filter f=((cs.drop a).take n).flatten:=by
 have e:cs=cs.take a++((cs.drop a).take n++cs.drop (a+n)):=by
  rw [←tA,eZ,eZ]
 have h1:(cs.take a).flatten.filter f=[]:=by
  refine je.2 fun x hx=>?_
  obtain⟨i,c,hc,Ly⟩:=iC hx
  have hi:i<a:=by
   have:=(bp.1 hc).1;rw [dm]at this;omega
  rw [f9 hi]at hc
  intro hf
  have:=(h i c hc x Ly).1 hf;omega
 have h3:(cs.drop (a+n)).flatten.filter f=[]:=by
  refine je.2 fun x hx=>?_
  obtain⟨i,c,hc,Ly⟩:=iC hx
  rw [fi]at hc
  intro hf
  have:=(h _ c hc x Ly).1 hf;omega
 have h2:((cs.drop a).take n).flatten.filter f=((cs.drop a).take n).flatten:=by
  refine nY.2 fun x hx=>?_
  obtain⟨i,c,hc,Ly⟩:=iC hx
  have hi:i<n:=by have:=(bp.1 hc).1;rw [dm]at this;omega
  rw [f9 hi,fi]at hc
  exact(h _ c hc x Ly).2 ⟨by omega,by omega⟩
 conv=>lhs;rw [e]
 rw [ki,ki,gG,gG,h1,h2,h3,eU,eV]
def rI.part(A:rI)(pj p:Nat):List iM:=((A.cs.drop (p*2 ^ (A.j-pj))).take (2 ^ (A.j-pj))).flatten
theorem aaO {A:rI}{pj p:Nat}(hpj:pj≤A.j)(hj:A.j≤20)(hb:∀(i:Nat) (c:List iM),A.cs[i]?=some c→∀x∈c,bk A.j x.hs=i):A.dc.filter (fun x=>decide (bk pj x.hs=p))=A.part pj p:=by
 refine Fp fun i c hc x hx=>?_
 have e:=hb i c hc x hx
 rw [decide_eq_true_eq,aoS hpj (by omega:A.j≤64),e]
 have hp:=two_pos (A.j-pj)
 generalize 2 ^ (A.j-pj)=d at *
 rw [←nP]
 constructor
 ·rintro rfl
  exact⟨Nat.div_mul_le_self i d,(by have:=Nat.lt_mul_div_succ i hp;rwa [jF]at this)⟩
 ·rintro⟨h1,h2⟩
  exact Nat.div_eq_of_lt_le h1 h2
theorem RT {h:Hp}{b:Nat}{cs:LV}{o n m:Nat}{src jc:OA}{l:LN}{K:Int→Hp→Prop}(row:eM h b cs)(rd:dZ h src (l.map bv)) (hm:m=l.length) (hn:m≤n) (ho:o+l.length≤cs.length)
  (hb:l≠[]→jc=some ⟨b,o,none⟩) (hK:∀h',eM h' b (B1 cs o (l.map bv))→bY (fun i=>i=b) h h'→K (m:Nat) h'):RU 1 jc n src m h K:=by
 have amR:min m n=m:=ji hn
 refine⟨l.map bv,rd,by rw [bA,amR];omega,?_⟩
 rw [amR]
 by_cases hl:l=[]
 ·subst hl
  have e:B1 cs o (([]:LN).map bv)=cs:=by unfold B1;simp
  rw [e]at hK
  have:=hK h row (bY.refl _ _)
  cases jc with
  |none=>exact this
  |some a=>exact⟨trivial,this⟩
 ·rw [hb hl]
  show wH h ((⟨b,o,none⟩:Addr).add 0) _ 0∧K _ (o9 h ((⟨b,o,none⟩:Addr).add 0) _ 0)
  have ea:(⟨b,o,none⟩:Addr).add 0=⟨b,o,none⟩:=rfl
  rw [ea]
  refine⟨uI _ _ _ o 0 row (by rw [bA];omega) (fun v hv=>by obtain⟨x,_,rfl⟩:=cy.1 hv;rfl),hK _ ?_ (sV _ _ _ _ rfl)⟩
  have:=uQ (l.map bv) h _ o 0 row (by rw [bA];omega)
  rwa [iF]at this
namespace RS
def K1(s:RS)(fH:List (LN)):RS × Nat × Int:=if fH.flatten.length>4096 then(s,0,41)else s.y9 fH.flatten
end RS
structure ajo (h:Hp) (q:HQ) (a:Sl) (Dw:List Sl) (fH:List (LN)):Prop where
 rd:dZ h a.a (Dw.map Sq)
 n:a.n=Dw.length
 len:Dw.length=fH.length
 Ty:∀(i:Nat) (c:Sl) (p:LN),Dw[i]?=some c→fH[i]?=some p→dZ h c.a (p.map bv)∧c.n=p.length∧fK p∧p.length<140737488355328∧∀a:Addr,c.a=some a→p≠[]→a.block<h.size
section
variable {h h' h2:Hp} {q q2:HQ} {s:RS} {nd:List di} {b:LN} {id:Nat} {R:RP}
theorem yM {fH:List (LN)} {i:Nat} {p:LN} (h:fH[i]?=some p):(fH.take (i+1)).flatten=(fH.take i).flatten++p:=by rw [RS.iO h];simp
theorem Jn (fH:List (LN)) (i:Nat):(fH.take i).flatten.length≤fH.flatten.length:=by
 conv=>rhs;rw [←eZ i fH,ki,bG]
 omega
theorem ag1(x:He h q s)(sh:s.vH nd){a:Sl}{Dw:List Sl}{fH:List (LN)} (sr:ajo h q a Dw fH) (Q6:Dw.length<100000000000000) (hR:Kg h q (s.K1 fH).1 (vt #[uv (s.K1 fH).2.1,vi (s.K1 fH).2.2]) R) :
  bq PG 95 #[vp (sa q.hb),.slice a.a a.n a.c] h R:=by
 have part:∀i,i<Dw.length→∃c p,Dw[i]?=some c∧fH[i]?=some p:=fun i hi=>⟨_,_,br hi,br (by have:=sr.len;omega)⟩
 have han:=sr.n
 have vg:=sr.len
 refine abH ?_
 unfold anE
 refine ON (fun m s0 s1 s6 Sx uP qS h'=>∃i:Nat,i≤Dw.length∧m=Dw.length-i∧s0=some (ad q.hb)∧a=s1∧s6=(((fH.take i).flatten.length:Nat):Int)∧(fH.take i).flatten.length≤4096∧a=Sx∧uP=(Dw.length:Int)∧qS=(i:Int)∧h=h') Dw.length
  ⟨0,cP _,rfl,rfl,rfl,rfl,by simp,rfl,by rw [han],rfl,rfl⟩ ?_
 rintro m s0 s1 s6 Sx uP qS g h1 ⟨i,hi,rfl,rfl,rfl,rfl,uc,rfl,rfl,rfl,rfl⟩
 unfold W2
 refine ca (fun fE=>?_) fun o5=>?_
 ·have iZ:i<Dw.length:=by omega
  obtain⟨c,p,hc,hp⟩:=part i iZ
  obtain⟨rdc,nc,b8,lc,oc⟩:=sr.Ty i c p hc hp
  obtain⟨pa,hpa,kY⟩:=ni sr.rd (i:=i) (v:=Sq c) (by rw [bD,hc];rfl)
  refine⟨⟨by omega,by omega⟩,cW hpa ⟨c,by rw [bu,cQ];exact kY,?_⟩⟩
  have ef:(((fH.take i).flatten.length:Nat):Int)+(c.n:Int)=(((fH.take (i+1)).flatten.length:Nat):Int):=by
   rw [yM hp,bG,nc];omega
  have C2:=Jn fH (i+1)
  have e1:(fH.take (i+1)).flatten.length=(fH.take i).flatten.length+p.length:=by rw [yM hp,bG]
  rw [bU (x:=(((fH.take i).flatten.length:Nat):Int)+_) (by omega) (by omega),ef]
  refine ca (fun anl=>?_) fun vV=>⟨Dw.length-(i+1),by omega,i+1,iZ,rfl,rfl,rfl,rfl,by omega,rfl,rfl,by rw [bU (by omega) (by omega)];rfl,rfl⟩
  have:s.K1 fH=(s,0,41):=by unfold RS.K1;rw [if_pos (by omega)]
  rw [this]at hR
  exact hR _ q x (Ex.refl _ _)
 ·have hie:i=fH.length:=by omega
  subst hie
  rw [dE]at uc ⊢
  have hF:=uc
  generalize hn:fH.flatten.length=n at uc ⊢
  refine⟨⟨by omega,by omega⟩,by omega,by omega,dh fun h2 e2=>?_⟩
  rw [bu]at e2 ⊢
  have k2:bY N h h2:=e2▸cF _ _ _
  have mi:eM h2 h.size (List.replicate n (bv 0)):=by
   have e3:=e2
   rw [o6]at e3
   exact e3▸du h (List.replicate n (bv 0)).toArray 5
  have YT:nb h=ad h.size:=rfl
  rw [YT]
  refine OM (fun m s0 s9 oh Dh xy Eu h'=>∃i:Nat,i≤Dw.length∧m=Dw.length-i∧s0=some (ad q.hb)∧s9=⟨some (ad h.size),n,n⟩∧oh=(((fH.take i).flatten.length:Nat):Int)∧a=Dh∧xy=(Dw.length:Int)∧Eu=(i:Int) ∧
    bY N h h'∧eM h' h.size ((fH.take i).flatten.map bv++List.replicate (n-(fH.take i).flatten.length) (bv 0))) Dw.length
   ⟨0,cP _,rfl,rfl,rfl,rfl,rfl,by rw [han],rfl,k2,by simpa using mi⟩ ?_
  rintro m s0 s9 oh Dh xy Eu g2 h3 ⟨i,hi,rfl,rfl,rfl,rfl,rfl,rfl,rfl,k3,zQ⟩
  unfold W1
  have hfi:=Jn fH i
  refine ca (fun fE=>?_) fun o5=>?_
  ·have iZ:i<Dw.length:=by omega
   obtain⟨c,p,hc,hp⟩:=part i iZ
   obtain⟨rdc,nc,b8,lc,oc⟩:=sr.Ty i c p hc hp
   obtain⟨pa,hpa,kY⟩:=ni (fC k3 sr.rd) (i:=i) (v:=Sq c) (by rw [bD,hc];rfl)
   have C2:=Jn fH (i+1)
   have e1:(fH.take (i+1)).flatten.length=(fH.take i).flatten.length+p.length:=by rw [yM hp,bG]
   refine⟨⟨by omega,by omega⟩,cW hpa ⟨c,by rw [bu,cQ];exact kY,⟨by omega,by show (((fH.take i).flatten.length:Nat):Int)≤(n:Int);omega⟩,?_⟩⟩
   rw [bu]
   refine RT (o:=(fH.take i).flatten.length) (l:=p) zQ (fC k3 rdc) nc (by show c.n≤n-_;omega) ?_ (fun iS=>?_) fun h4 GG k4=>?_
   ·rw [bG,bA,fq];omega
   ·have wW:0<p.length:=List.length_pos_iff.2 iS
    show (if n=(fH.take i).flatten.length then _ else _)=_
    rw [if_neg (by omega)]
    show some ((ad h.size).add _)=_
    rw [cm,cQ]
   ·refine⟨Dw.length-(i+1),by omega,i+1,iZ,rfl,rfl,rfl,?_,rfl,rfl,by rw [bU (by omega) (by omega)];rfl,?_,?_⟩
    ·rw [bU (by omega) (by omega)];omega
    ·exact⟨bP k3.1 k4.1,fun j hj _=>(k4.2 j (bZ hj k3.1) (by omega)).trans (k3.2 j hj id)⟩
    ·have e5:B1 ((fH.take i).flatten.map bv++List.replicate (n-(fH.take i).flatten.length) (bv 0)) (fH.take i).flatten.length (p.map bv)=(fH.take (i+1)).flatten.map bv++List.replicate (n-(fH.take (i+1)).flatten.length) (bv 0):=by
      unfold B1
      have q1:((fH.take i).flatten.map bv++List.replicate (n-(fH.take i).flatten.length) (bv 0)).take (fH.take i).flatten.length=(fH.take i).flatten.map bv:=by
       rw [gB (by rw [bA];exact bH _),eT (by rw [bA];exact bH _)]
      have q2:((fH.take i).flatten.map bv++List.replicate (n-(fH.take i).flatten.length) (bv 0)).drop ((fH.take i).flatten.length+(p.map bv).length)=List.replicate (n-(fH.take (i+1)).flatten.length) (bv 0):=by
       rw [bA,kP,jf (by rw [bA];omega),eU,bA,List.drop_replicate]
       congr 1
       omega
      rw [q1,q2,yM hp,cx]
     rw [e5]at GG
     exact GG
  ·have hie:i=fH.length:=by omega
   subst hie
   rw [dE,hn,dD,rU,eV]at zQ
   have x3:=x.cI k3
   have b8:fK fH.flatten:=fun c hc=>by
    obtain⟨p,hp,hcp⟩:=dY.1 hc
    obtain⟨i,hi⟩:=bT.1 hp
    have iZ:=(bp.1 hi).1
    obtain⟨c',p',tG,HV⟩:=part i (by omega)
    rw [hi]at HV
    obtain rfl:=bt HV
    exact(sr.Ty i c' p tG hi).2.2.1 c hcp
   have sr3:Zs h3 q ⟨some (ad h.size),n,n⟩ fH.flatten:=⟨lq zQ,hn.symm,b8,fun p hp _=>by obtain rfl:=bt hp;exact⟨x.fr (bH _),eE zQ⟩⟩
   have e6:s.K1 fH=s.y9 fH.flatten:=by unfold RS.K1;rw [if_neg (by omega)]
   rw [e6]at hR
   exact ahh x3 sh ⟨b8,by omega⟩ sr3 fun h5 q5 x5 ex5=>⟨_,_,rfl,hR h5 q5 x5 ((Ex.pm k3 fun b hb=>x.fr hb).trans ex5)⟩
end
structure Gs (h:Hp) (q:HQ) (s:RS) (nd:List di):Prop where
 st:He h q s
 sh:s.vH nd
section
variable {h h':Hp} {q q':HQ} {s s':RS} {nd:List di} {n:di} {id:Nat} {R:RP}
theorem Gs.v(x:Gs h q s nd):s.Inv:=x.st.v
theorem Gs.cI(x:Gs h q s nd)(k:bY N h h'):Gs h' q s nd:=⟨x.st.cI k,x.sh⟩
theorem Gs.da(x:Gs h q s nd)(r:vD nd s.bC id):s.da id:=r.da x.v x.sh
theorem Gs.HP(x:Gs h q s nd){S:Nat→Prop}(k:bY S h h')(hS:∀b,S b→q.bR b=.out):Gs h' q s nd:=⟨⟨x.st.rp.eG k hS,x.st.v⟩,x.sh⟩
theorem alu(x:Gs h q s nd)(hn:nd[id]?=some n)(hh:s.da id){k t:Nat}(ht:t=0∨s.da t)(hk:k<n.cY.length){i:Int}(hi:i=(k:Int))
  (hR:∀h' q' s',Gs h' q' s' (nd.set id ⟨n.kind,n.cY.set k t,n.cN⟩)→s'.Kh s→s'.bC=s.bC→Ex h q h' q'→R (vi 0) h') :
  bq PG 92 #[vp (sa q.hb),uv (s.fk id),vi i,uv (s.fk t)] h R:=by
 subst hi
 obtain⟨s',e,UZ,al,er⟩:=RS.WR x.v x.sh hn hh ht hk
 refine Zf x.st (RS.qi x.v (.inr hh)) (RS.qi x.v ht) ?_
 rw [e]
 exact fun h' q' x' ex=>hR h' q' s' ⟨x',UZ⟩ al er ex
theorem Vs(x:Gs h q s nd)(hn:nd[id]?=some n)(hh:s.da id){k w:Nat}(hw:w<18446744073709551616)(hk:k<n.cN.length){i:Int}(hi:i=((n.cY.length+k:Nat):Int))
  (hR:∀h' q' s',Gs h' q' s' (nd.set id ⟨n.kind,n.cY,n.cN.set k w⟩)→s'.Kh s→s'.bC=s.bC→Ex h q h' q'→R (vi 0) h') :
  bq PG 92 #[vp (sa q.hb),uv (s.fk id),vi i,uv w] h R:=by
 subst hi
 obtain⟨s',e,UZ,al,er⟩:=RS.WS (x:=w) x.v x.sh hn hh hk
 refine Zf x.st (RS.qi x.v (.inr hh)) hw ?_
 rw [e]
 exact fun h' q' x' ex=>hR h' q' s' ⟨x',UZ⟩ al er ex
theorem alw(x:Gs h q s nd)(hn:nd[id]?=some n)(hh:s.da id){k r:Nat}(hk:n.cY[k]?=some r){i:Int}(hi:i=(k:Int)) (hR:R (vt #[uv (s.fk r),vi 0]) h) :
  bq PG 72 #[vp (sa q.hb),uv (s.fk id),vi i] h R:=by
 subst hi
 refine DH x.v x.st.rp (RS.qi x.v (.inr hh)) ?_
 rw [RS.WT x.v x.sh hn hh hk]
 exact hR
theorem Vu(x:Gs h q s nd)(hn:nd[id]?=some n)(hh:s.da id){k w:Nat}(hk:n.cN[k]?=some w){i:Int}(hi:i=((n.cY.length+k:Nat):Int)) (hR:R (vt #[uv w,vi 0]) h) :
  bq PG 72 #[vp (sa q.hb),uv (s.fk id),vi i] h R:=by
 subst hi
 refine DH x.v x.st.rp (RS.qi x.v (.inr hh)) ?_
 rw [RS.WU x.v x.sh hn hh hk]
 exact hR
theorem agN(x:Gs h q s nd){i:Int}(hR:R (vt #[uv 0,vi 32]) h):bq PG 72 #[vp (sa q.hb),uv 0,vi i] h R:=by
 refine DH x.v x.st.rp (by omega) ?_
 have:s.Cd 0 i=(0,32):=by unfold RS.Cd;rw [if_pos (RS.np s)]
 rw [this];exact hR
theorem QH(x:Gs h q s nd)(hn:nd[id]?=some n)(hh:s.da id)(hR:R (vt #[vi (n.kind:Nat),vi (n.cY.length:Nat),vi (n.cN.length:Nat),vi 0]) h) :
  bq PG 89 #[vp (sa q.hb),uv (s.fk id)] h R:=by
 refine qr x.v x.st.rp (RS.qi x.v (.inr hh)) ?_
 rw [RS.aeo x.v x.sh hn hh]
 exact hR
theorem agM(x:Gs h q s nd)(hR:R (vt #[vi 0,vi 0,vi 0,vi 32]) h):bq PG 89 #[vp (sa q.hb),uv 0] h R:=by
 refine qr x.v x.st.rp (by omega) ?_
 have:s.uW 0=((0,0,0),32):=by unfold RS.uW;rw [if_pos (RS.np s)]
 rw [this];exact hR
theorem A7(x:Gs h q s nd){k r w:Nat}(hs:pY (k:Int) (r:Int) (w:Int)) {i1 i2 i3:Int} (e1:i1=(k:Int)) (e2:i2=(r:Int)) (e3:i3=(w:Int))
  (sY:∀h' q' s',Gs h' q' s' nd→s'.bC=s.bC→s'.cM=s.cM→Ex h q h' q'→¬s.zf r w→R (vt #[uv 0,vi 31]) h')
  (vV:∀h' q' s',Gs h' q' s' (nd++[⟨k,List.replicate r 0,List.replicate w 0⟩])→s'.bC=s.bC→s'.cM=s.cM→s'.da nd.length→Ex h q h' q'→s.zf r w→R (vt #[uv (s'.fk nd.length),vi 0]) h') :
  bq PG 96 #[vp (sa q.hb),vi i1,vi i2,vi i3] h R:=by
 subst e1 e2 e3
 refine R0 x.st ?_
 rcases RS.aby x.v x.sh hs with⟨hr,t,e,a,b,c⟩|⟨hr,t,e,a,b,c,d⟩
 ·rw [e]
  exact fun h' q' x' ex=>sY h' q' t ⟨x',a⟩ b c ex hr
 ·rw [e]
  exact fun h' q' x' ex=>vV h' q' t ⟨x',a⟩ b c d ex hr
theorem BU(x:Gs h q s nd)(hh:id=0∨s.da id)(hl:s.bC.length<100000000)
  (hR:∀h' q' s',Gs h' q' s' nd→s'.Kh s→s'.bC=ix s.bC id→Ex h q h' q'→R (vt #[vi ((RS.dV s.bC+1:Nat):Int),vi 0]) h') :
  bq PG 90 #[vp (sa q.hb),uv (s.fk id)] h R:=by
 refine Zg x.st hl (RS.qi x.v hh) ?_
 rw [RS.aie x.v x.sh hh]
 exact fun h' q' x' ex=>hR h' q' _ ⟨x',x.sh.bC _⟩ (RS.um _ _) rfl ex
theorem BV(x:Gs h q s nd){m:Nat}(hm:1≤m)(hd:s.bC.getD (m-1) none=some id)
  (hR:∀h' q' s',Gs h' q' s' nd→s'.Kh s→s'.bC=s.bC.set (m-1) none→Ex h q h' q'→R (vi 0) h') :
  bq PG 84 #[vp (sa q.hb),vi (m:Int)] h R:=by
 refine ai1 x.st ?_
 rw [RS.WW s hm hd]
 exact fun h' q' x' ex=>hR h' q' _ ⟨x',x.sh.bC _⟩ (RS.um _ _) rfl ex
theorem Vv(x:Gs h q s nd){m:Nat}(hm:1≤m)(hd:s.bC.getD (m-1) none=some id) (hR:R (vt #[uv (s.fk id),vi 0]) h) :
  bq PG 91 #[vp (sa q.hb),vi (m:Int)] h R:=by
 refine aoN x.st ?_
 rw [RS.auj s hm hd]
 exact hR
theorem SH(x:Gs h q s nd)(hR:∀h' q' s',Gs h' q' s' nd→s'.bC=s.bC→s'.cM=s.cM→Ex h q h' q'→s'=s.collect→R (vt #[]) h'):bq PG 32 #[vp (sa q.hb)] h R :=
 TE x.st fun h' q' x' ex=>hR h' q' _ ⟨x',x.sh.sub (RS.Sub.collect x.v)⟩ RS.yg.2 RS.C7 ex rfl
theorem Vt(x:Gs h q s nd){i:Int}(hR:∀h' q' s' e,Gs h' q' s' nd→s'.bC=s.bC→s'.cM=s.cM→Ex h q h' q'→R (vi e) h'):bq PG 42 #[vp (sa q.hb),vi i] h R :=
 Zh x.st fun h' q' x' ex=>hR h' q' _ _ ⟨x',x.sh.sub (RS.Sub.lG x.v i)⟩ (RS.NZ i).2 (RS.NY i) ex
end
section
variable {h h':Hp} {q q':HQ} {s s':RS} {nd:List di} {n:di} {id:Nat} {R:RP} {b:LN}
theorem Gs.isB(x:Gs h q s nd)(hh:s.da id)(hn:nd[id]?=some (oV b)):s.P2 id b:=RS.P2.of x.v x.sh hh hn
theorem alv(x:Gs h q s nd){a:Sl}{Dw:List Sl}{fH:List (LN)} (sr:ajo h q a Dw fH) (Q6:Dw.length<100000000000000) (hb8:fK fH.flatten)
  (anl:fH.flatten.length>4096→∀h' q',Gs h' q' s nd→Ex h q h' q'→R (vt #[uv 0,vi 41]) h')
  (sY:fH.flatten.length≤4096→∀h' q' s',Gs h' q' s' nd→s'.bC=s.bC→s'.cM=s.cM→Ex h q h' q'→¬s.zf 0 (1+dH fH.flatten.length)→R (vt #[uv 0,vi 31]) h')
  (vV:∀h' q' s',Ko fH.flatten→Gs h' q' s' (nd++[oV fH.flatten])→s'.bC=s.bC→s'.cM=s.cM→s'.da nd.length→Ex h q h' q'→s.zf 0 (1+dH fH.flatten.length)→R (vt #[uv (s'.fk nd.length),vi 0]) h') :
  bq PG 95 #[vp (sa q.hb),.slice a.a a.n a.c] h R:=by
 refine ag1 x.st x.sh sr Q6 ?_
 unfold RS.K1
 by_cases hl:fH.flatten.length>4096
 ·rw [if_pos hl]
  exact fun h' q' x' ex=>anl hl h' q' ⟨x',x.sh⟩ ex
 ·rw [if_neg hl]
  have ok:Ko fH.flatten:=⟨hb8,by omega⟩
  rcases RS.anu x.v x.sh ok with⟨hr,t,e,c1,c2,c3⟩|⟨hr,t,e,c1,c2,c3,c4⟩
  ·rw [e]
   exact fun h' q' x' ex=>sY (by omega) h' q' t ⟨x',c1⟩ c2 c3 ex hr
  ·rw [e]
   exact fun h' q' x' ex=>vV h' q' t ok ⟨x',c1⟩ c2 c3 c4 ex hr
theorem agL(x:Gs h q s nd)(hh:s.da id)(hn:nd[id]?=some (oV b)) (ok:Ko b) (hR:∀c h',eM h' c (b.map bv)→h.size≤c→bY N h h'→R (vt #[.slice (sa c) b.length b.length,vi 0]) h') :
  bq PG 156 #[vp (sa q.hb),uv (s.fk id)] h R:=QE x.st (x.isB hh hn) ok hR
end
def FR(ro:Option Nat):Fence:={Fence.wide with round:=ro}
section
variable {P:Program} {ops:Array Oper} {Q:Exit→Act→World→Prop} {ro:Option Nat} {n:Nat}
theorem PN {f:FuncId}{args:Array Value}{w:World}{R:Ending→World→Prop}(h:Calls P f args w R):CallsIn (FR ro) n P f args w R :=
 ⟨trivial,fun cs _=>let ⟨e,w',fr,r,s,x⟩:=h cs;⟨e,w',fr,r,comesIn_wide.2 s,x⟩⟩
theorem Up {o:Oper}{a:Act}{w:World}{K:Act→World→Prop}(hd:∀c,o.op≠.defer c)(h:o.wp P a w K Q):o.wpIn (FR ro) n P a w K Q:=by
 refine⟨fun _ _=>trivial,?_⟩
 rw [Oper.semAt_eq _ _ _ hd]
 unfold Oper.wp at h
 generalize (execOp a.eval o).run P w=r at h ⊢
 cases r with
 |ok x w' =>
  cases x<;>simp only [Oper.upon,Oper.uponIn]at h ⊢
  case value=>exact h
  case skip=>exact h
  case defer=>exact h
  case enter=>exact⟨nofun,PN h⟩
  case row=>exact⟨nofun,fun c cs _=>let ⟨v,w',r,s⟩:=h c cs;⟨v,w',r,stepsIn_wide.2 s⟩⟩
 |halt x w'=>cases x<;>simp only [Oper.upon,Oper.uponIn]at h ⊢<;>exact h
theorem KY(h:uY ops=true){i:Nat}{o:Oper}(ho:ops[i]?=some o):∀c,o.op≠.defer c:=fun c hc=>by
 have:=mg.1 h o (by
  rw [←Array.getElem?_toList]at ho
  exact bx ho)
 rw [hc]at this
 cases this
theorem Hi(hd:uY ops=true)(hQ:¬LetsOut Q){i:Nat}{a:Act}{w:World}{K:Act→World→Prop}(h:wpOp P ops Q i K a w):wpOpIn (FR ro) n P ops Q i K a w:=by
 unfold wpOp at h
 unfold wpOpIn
 cases ho:ops[i]? with
 |none=>simpa only [ho]using h
 |some o =>
  simp only [ho]at h ⊢
  split
  ·rename_i hw
   rw [if_pos hw]at h
   exact Up (KY hd ho) (h.resolve_right fun z=>hQ z.2)
  ·rename_i hw
   rw [if_neg hw]at h
   exact⟨fun _ _=>trivial,h⟩
theorem D0(hd:uY ops=true)(hQ:¬LetsOut Q):∀(l:LN) (a:Act) (w:World),wpOps P ops Q l a w→wpOpsIn (FR ro) n P ops Q l a w
 | [],_,_,h=>h
 |i::l,a,w,h=>by
  rw [wpOps_cons]at h
  rw [wpOpsIn_cons]
  exact wpOpIn_mono (fun a w=>D0 hd hQ l a w) (Hi hd hQ h)
theorem D1 {md:Region.Mode}(hd:uY ops=true)(hQ:¬LetsOut Q):∀(kW:Nat) (listed:Array Bool) (a:Act) (w:World),wpAny P md ops Q kW listed a w→wpAnyIn (FR ro) n P md ops Q kW listed a w
 | 0,_,_,_,h=>h
 |kW+1,_,a,w,h=>⟨h.1,fun i hi=>wpOpIn_mono (fun a w=>D1 hd hQ kW _ a w) (Hi hd hQ (h.2 i hi))⟩
theorem CB {F:Fence}{c:Code}{a:Act}{w:World}(I:Nat→Act→World→Prop)(m:Nat)(h0:I m a w)
  (round:∀m a w,I m a w→c.wpIn F n P (Exit.then (fun a' w'=>∃m',m'<m∧I m' a' w') Q) a w):(Code.loop c).wpIn F n P Q a w:=by
 intro b k cs hro hb hr
 have key:∀m a w,I m a w →
   ∃e a' w',Q e a' w'∧ArrivesIn (Machine.fenced P F) P (lone (b.atR a (.code c::.inLoop c::k)) cs w) b k cs e a' w':=by
  intro m
  induction m using Nat.strongRecOn with
  |_ m ih =>
   intro a w hI
   obtain⟨e,Cx,BJ,hq,xS⟩:=round m a w hI b (.inLoop c::k) cs hro hb hr
   cases e with
   |normal =>
    obtain⟨m',fE,WL⟩:=hq
    obtain⟨aiN,ajc,afV,Wt,Jk⟩:=ih m' fE Cx BJ WL
    exact⟨aiN,ajc,afV,Wt,.of_steps (StepsIn.trans xS (.one (fenced_calm hb hr rfl) stepR_inLoop)) Jk⟩
   |exit id=>exact⟨_,Cx,BJ,hq,.pass (x:=.inLoop c) rfl (fun _ _=>.inl (by simp)) xS⟩
   |goto l=>exact⟨_,Cx,BJ,hq,.pass (x:=.inLoop c) rfl (fun _ _=>.inl (by simp)) xS⟩
   |ret=>exact⟨_,Cx,BJ,hq,.pass (x:=.inLoop c) rfl (fun _ _=>.inl (by simp)) xS⟩
   |panic ch=>exact⟨_,Cx,BJ,hq,.pass (x:=.inLoop c) rfl (fun _ _=>.inl (by simp)) xS⟩
   |outgrown=>exact⟨_,Cx,BJ,hq,.pass (x:=.inLoop c) rfl (fun _ _=>.inl (by simp)) xS⟩
 obtain⟨e,a',w',hq,xS⟩:=key m a w h0
 exact⟨e,a',w',hq,.of_steps (.one (fenced_calm hb hr rfl) stepR_loop) xS⟩
end
section
variable {P:Program} {ops:Array Oper} {F:Fence} {n:Nat} {Q Q':Exit→Act→World→Prop}
theorem Oper.Nx(hq:∀e a w,Q e a w→Q' e a w)(hQ:¬LetsOut Q){o:Oper}{a:Act}{w:World}{K K':Act→World→Prop}(h:∀a w,K a w→K' a w)(hh:o.wpIn F n P a w K Q):o.wpIn F n P a w K' Q':=by
 unfold Oper.wpIn at *
 refine⟨hh.1,?_⟩
 have hh:=hh.2
 generalize (o.semAt F.round a.eval).run P w=r at *
 cases r with
 |ok x w' =>
  cases x<;>simp only [Oper.uponIn]at hh ⊢ <;>
   first
    |exact h _ _ hh
    |exact⟨hh.1,CallsIn.mono hh.2 (fun e w'' he=>by cases e<;>first|exact h _ _ he|exact hq _ _ _ he|exact(hQ he).elim)⟩
    |exact⟨hh.1,RowsIn.mono hh.2 (fun _ _ he=>h _ _ he)⟩
    |exact⟨hh.1,RoundIn.mono hh.2 (fun e w'' he=>by cases e<;>first|exact h _ _ he|exact hq _ _ _ he|exact(hQ he).elim)⟩
 |halt x w'=>cases x<;>simp only [Oper.uponIn]at hh ⊢<;>first|exact hq _ _ _ hh|exact hh
theorem qG(hq:∀e a w,Q e a w→Q' e a w)(hQ:¬LetsOut Q):∀(l:LN) (a:Act) (w:World),wpOpsIn F n P ops Q l a w→wpOpsIn F n P ops Q' l a w
 | [],_,_,h=>hq _ _ _ h
 |i::l,a,w,h=>by
  rw [wpOpsIn_cons]at h ⊢
  unfold wpOpIn at h ⊢
  split
  ·rename_i ho
   simp only [ho]at h
   exact qG hq hQ l _ _ h
  ·rename_i o ho
   simp only [ho]at h
   split
   ·rename_i hw
    rw [if_pos hw]at h
    exact Oper.Nx hq hQ (fun a w=>qG hq hQ l a w) h
   ·rename_i hw
    rw [if_neg hw]at h
    exact⟨h.1,qG hq hQ l _ _ h.2⟩
end
def mV(P:Program)(l:Nat)(args:LV)(h:Hp)(R:RP):Prop :=
 ∀w:World,w.heap=h→∃fn tmps assign body,(Instr.yield l args.toArray).run P w=.ok (.round l fn tmps assign body) w ∧
  RoundIn Fence.wide 0 P l fn tmps assign body w fun e w'=>∃v,e=.returned v∧gj w w'∧R v w'.heap
def ajq(P:Program)(v:Value)(args:LV)(h:Hp)(R:RP):Prop :=
 Dyn P v args h R∨∃l,v=.func (.yield l) #[] #[]∧mV P l args h R
def afS(v:Value)(b:Bool):Prop:=(v=.nilFunc∧b=true)∨∃f a c,v=.func f a c∧b=false
def Q1:Operand→Bool
 | .const .nilFunc=>true
 |_=>false
def Rh(P:Program)(t:TypeId)(v:Value)(h:Hp)(K:RP):Prop :=
 match P.underlying t with
 |some (.func _ _ _)=>∃b:Bool,afS v b∧K (.bool b) h
 |_=>False
def YO(P:Program)(T:tD)(o:Oper)(env:LV)(h:Hp)(K:RP):Prop :=
 match o.op with
 | .binOp .eql t x y _=>if Q1 y=true then Rh P t (dz env x) h K else G5 P T o env h K
 | .call c=>match c.callee with
  | .value f=>if Wh f=true then ajq P (dz env f) (c.args.toList.map (dz env)) h (fun r h'=>zt (T.rt o.type) fun u=>r=u∧K u h')else G5 P T o env h K
  |_=>G5 P T o env h K
 |_=>G5 P T o env h K
def Cn(P:Program)(T:tD)(ops:Array Oper):List Oper→LV→Hp→(LV→Hp→Prop)→Prop
 | [],env,h,Q=>Q env h
 |o::rest,env,h,Q=>evG ops o env (fun hD=>YO P T o hD h fun v h'=>Cn P T ops rest (A8 hD o.dst v) h' Q)
   (fun hD=>Cn P T ops rest (A8 hD o.dst undef) h Q)
def uw(P:Program)(T:tD)(lv:Nat→LN):Code→Kc→LV→Hp→Prop
 | .skip,Q,env,h=>Q .normal env h
 | .ret,Q,env,h=>Q .ret env h
 | .exit id,Q,env,h=>Q (.exit id) env h
 | .seq a b,Q,env,h=>uw P T lv a (aan (uw P T lv b Q) Q) env h
 | .cond c a b,Q,env,h=>match dz env c with
  | .bool t=>bX t (uw P T lv a Q env h) (uw P T lv b Q env h)
  |_=>False
 | .block id c,Q,env,h=>uw P T lv c (As id Q) env h
 | .loop c,Q,env,h=>dO (uw P T lv c) Q (vR (lv (sZ c)) env) env.length h
 | .region id ops tI,Q,env,h=>if tI=true then kJ P T lv (.region id ops tI) Q env h else Cn P T ops ops.toList env h (Q .normal)
 |_,_,_,_=>False
def po:Code→Bool
 | .seq a b=>po a&&po b
 | .cond _ a b=>po a&&po b
 | .block _ c=>po c
 | .loop c=>po c
 | .region _ ops _=>uY ops
 |_=>true
section
variable {P:Program} {T:tD} {D:List Deferred} {w0:World} {ro:Option Nat} {n:Nat}
theorem E3 {Q:Kc}:¬LetsOut (I1 D w0 Q):=fun⟨_,_,_,_,_,h⟩=>h
theorem xY {lv:Nat→LN}(hm:P.follows .mixedOrders=true)(hT:mH P T):∀(c:Code),kR c=true→po c=true→∀(Q:Kc) (env:LV) (w:World),gj w0 w→kJ P T lv c Q env w.heap →
  c.wpIn (FR ro) n P (I1 D w0 Q) (j9 env D) w:=by
 intro c
 induction c with
 |skip=>exact fun _ _ Q env w hs h=>wpIn_skip ⟨hs,env,rfl,h⟩
 |ret=>exact fun _ _ Q env w hs h=>wpIn_ret ⟨hs,env,rfl,h⟩
 |exit id=>exact fun _ _ Q env w hs h=>wpIn_exit ⟨hs,env,rfl,h⟩
 |seq a b I6 I5 =>
  intro hn hd Q env w hs h
  simp only [kR,po,eD]at hn hd
  refine wpIn_seq (wpIn_mono (I6 hn.1 hd.1 _ env w hs h) fun e a' w' hl=>?_)
  obtain⟨nq,hD,rfl,hl⟩:=hl
  cases e<;>first|exact hl.elim|exact⟨nq,hD,rfl,hl⟩|exact I5 hn.2 hd.2 Q hD w' nq hl
 |cond c a b I6 I5 =>
  intro hn hd Q env w hs h
  simp only [kR,po,eD]at hn hd
  unfold kJ at h
  split at h
  ·rename_i t hc
   have tG:(j9 env D).eval c=.bool t:=by rw [mK];exact hc
   rcases h.split with⟨rfl,hx⟩|⟨rfl,hx⟩
   ·exact wpIn_cond_true tG (I6 hn.1 hd.1 Q env w hs hx)
   ·exact wpIn_cond_false tG (I5 hn.2 hd.2 Q env w hs hx)
  ·exact h.elim
 |block id c ih =>
  intro hn hd Q env w hs h
  refine wpIn_block (wpIn_mono (ih hn hd _ env w hs h) fun e a' w' hl=>?_)
  obtain⟨nq,hD,rfl,hl⟩:=hl
  cases e with
  |exit Nn =>
   show if Nn=id then _ else _
   simp only [As]at hl
   split at hl
   ·rename_i iA;rw [if_pos iA];exact⟨nq,hD,rfl,hl⟩
   ·rename_i iA;rw [if_neg iA];exact⟨nq,hD,rfl,hl⟩
  |_=>first|exact hl.elim|exact⟨nq,hD,rfl,hl⟩
 |loop c ih =>
  intro hn hd Q env w hs h
  obtain⟨I,m,hg,round⟩:=h
  have h0:I m env w.heap:=by
   have:=hg fun k=>env.getD k undef
   have e:lU env.length (vR (lv (sZ c)) env) (fun k=>env.getD k undef)=env:=vT _ _
   rwa [e]at this
  refine CB (fun m a w=>gj w0 w∧∃env,a=j9 env D∧I m env w.heap) m ⟨hs,env,rfl,h0⟩ fun m a w hI=>?_
  obtain⟨nq,hD,rfl,hI⟩:=hI
  refine wpIn_mono (ih hn hd _ hD w nq (round m hD w.heap hI)) fun e a' w' hl=>?_
  obtain⟨LC,C6,rfl,hl⟩:=hl
  cases e<;>first|exact hl.elim|exact⟨LC,C6,rfl,hl⟩ | (obtain⟨m',fE,hm'⟩:=hl;exact⟨m',fE,LC,C6,rfl,hm'⟩)
 |region id ops tI =>
  intro hn hd Q env w hs h
  unfold kJ at h
  cases tI with
  |false =>
   simp only [dy,if_false]at h
   refine wpIn_region (D0 hd E3 _ _ _ ?_)
   have:=C4 (P:=P) (D:=D) (w0:=w0) hT (ops:=ops) ops.toList 0 env w (fun i=>by simp) hs h
   rw [fx]at this
   rwa [lC]
  |true =>
   simp only [if_true]at h
   have Jc:Region.noSelect ops=true:=by simpa [kR]using hn
   refine wpIn_region_any hm (D1 hd E3 _ _ _ _ ?_)
   exact zK ops.size [] _ _ {w with drawn:=w.drawn+1} ⟨hs.1,hs.2.1,hs.2.2.1,Nat.le_succ_of_le hs.2.2.2⟩ (H8 hT Jc ops.size [] _ env w.heap (fun p hp=>by cases hp) h)
 |_=>exact fun _ _ Q env w hs h=>h.elim
def Hf(l:Nat)(R:RP)(j:Option Code)(h:Hp):Prop :=
 ∃r:Loop,h[l]?=some (.loop r)∧R (.bool j.isNone) (h.setIfInBounds l (.loop {r with state:=if j.isNone then .ready else .done,pending:=j}))
def agA(l:Nat)(R:RP):Kc
 | .normal,_,h=>Hf l R none h
 | .ret,_,h=>Hf l R (some .ret) h
 | .exit id,_,h=>Hf l R (some (.exit id)) h
 |_,_,_=>False
def agm(P:Program)(T:tD)(lv:Nat→LN)(l:Nat)(body:Code)(R:RP):Kc
 | .normal,env,h=>∃r:Loop,h[l]?=some (.loop r)∧r.state=.ready∧kJ P T lv body (agA l R) env (h.setIfInBounds l (.loop {r with state:=.busy}))
 |_,_,_=>False
def wE(P:Program)(T:tD)(lv:Nat→LN)(l:Nat)(assign body:Code)(env:LV)(h:Hp)(R:RP):Prop :=
 kJ P T lv assign (agm P T lv l body R) env h
theorem tS {w:World}{l:Nat}{o:Obj}:gj w (w.putObj l o):=⟨rfl,rfl,rfl,bH _⟩
theorem zJ {lv:Nat→LN}(hm:P.follows .mixedOrders=true)(hT:mH P T){l:Nat}{r:Loop}{args:LV}{h:Hp}{R:RP}{env:LV}(hl:h[l]?=some (.loop r)) (hs:args.toArray.size=r.params.size)
  (he:(r.params.zip args.toArray).foldl (fun tmps (t,a)=>tmps.setIfInBounds t a) r.tmps=env.toArray) (n1:kR r.assign=true) (n2:kR r.body=true) (d1:po r.assign=true) (d2:po r.body=true)
  (hr:wE P T lv l r.assign r.body env h R):mV P l args h R:=by
 intro w hw
 subst hw
 refine⟨r.fn,env.toArray,r.assign,r.body,?_,?_⟩
 ·rw [←he];exact run_yield hl hs
 refine roundIn_of_wpIn (F:=Fence.wide) trivial ?_
 have key:=xY (P:=P) (T:=T) (D:=[]) (w0:=w) (ro:=some l) (n:=0) hm hT r.assign n1 d1 _ env w (gj.refl _) hr
 refine wpIn_mono key fun e a' w' hx=>?_
 obtain⟨nq,hD,rfl,hx⟩:=hx
 cases e<;>first|exact hx.elim|skip
 obtain⟨r1,h1,ahA,hx⟩:=hx
 refine⟨w'.putObj l (.loop {r1 with state:=.busy}),run_beginRound h1 ahA,?_⟩
 have asx:=xY (P:=P) (T:=T) (D:=[]) (w0:=w) (ro:=some l) (n:=0) hm hT r.body n2 d2 _ hD (w'.putObj l (.loop {r1 with state:=.busy})) (nq.trans tS) hx
 refine wpIn_mono asx fun e a2 w2 hy=>?_
 obtain⟨hs2,aBg,rfl,hy⟩:=hy
 cases e<;>first|exact hy.elim|skip
 all_goals
  obtain⟨r2,h2,hy⟩:=hy
  exact⟨_,_,run_endRound _ h2,_,rfl,hs2.trans tS,hy⟩
theorem GF {o:Oper}{c:Call}{f:Operand}{env:LV}{l:Nat}(mC:o.op=.call c)(hf:c.callee=.value f)(hv:dz env f=.func (.yield l) #[] #[]) (w:World) :
  (execOp (dz env) o).run P w=(Instr.yield l (c.args.toList.map (dz env)).toArray).run P w:=by
 have ha:(#[]:Array Value)++c.args.map (dz env)=(c.args.toList.map (dz env)).toArray:=by
  apply gd
  simp
 simp only [execOp,mC,run_bind,resolve,hf,hv,Deferred.ofValue,cH,invoke,ha]
theorem To {t:TypeId}{x y:Operand}{v:Value}{b:Bool}{ps rs:Array TypeId}{vd:Bool}(ht:P.underlying t=some (.func ps rs vd)) (hb:afS v b) (w:World) :
  (do eqGuard .eql t x y v .nilFunc;binOp .eql t v .nilFunc:Sem Value).run P w=.ok (.bool b) w:=by
 have hs:(Op.equal t v .nilFunc).run P w=.ok b w:=by
  rcases hb with⟨rfl,rfl⟩|⟨f,a,c,rfl,rfl⟩
  ·unfold Op.equal
   rw [show Op.maxDepth=9999+1 from rfl,Op.equalIn.eq_def]
   simp only []
   rw [run_bind,run_underlying ht]
   rfl
  ·unfold Op.equal
   rw [show Op.maxDepth=9999+1 from rfl,Op.equalIn.eq_def]
   simp only []
   rw [run_bind,run_underlying ht]
   rfl
 have hg:(eqGuard .eql t x y v .nilFunc).run P w=.ok () w:=by
  rcases hb with⟨rfl,rfl⟩|⟨f,a,c,rfl,rfl⟩<;>rfl
 have e:binOp .eql t v .nilFunc=(do pure (.bool (←Op.equal t v .nilFunc)):Sem Value):=by
  rcases hb with⟨rfl,rfl⟩|⟨f,a,c,rfl,rfl⟩<;>rfl
 have vW:(binOp .eql t v .nilFunc).run P w=.ok (.bool b) w:=by
  rw [e,run_bind,hs]
  rfl
 rw [run_bind,hg]
 exact vW
theorem MQ(hT:mH P T){o:Oper}{env:LV}{w:World}{K:RP}(h:YO P T o env w.heap K):
  yu P o env w K∨∃l args,(∀w':World,(execOp (dz env) o).run P w'=(Instr.yield l (List.toArray args)).run P w')∧(∀c,o.op≠.defer c)∧mV P l args w.heap K:=by
 unfold YO at h
 split at h
 ·rename_i t x y u mC
  split at h
  ·rename_i hy
   have ey:y=.const .nilFunc:=by
    unfold Q1 at hy
    split at hy
    ·rfl
    ·cases hy
   subst ey
   unfold Rh at h
   split at h
   ·rename_i ps rs vd ht
    obtain⟨b,hb,hk⟩:=h
    refine .inl (.inl ⟨.bool b,w,.inl ?_,gj.refl _,hk⟩)
    have e1:=To (x:=x) (y:=.const .nilFunc) ht hb w
    simp only [execOp,mC,Next.value]
    show (do let v ←(do eqGuard .eql t x (.const .nilFunc) (dz env x) .nilFunc;binOp .eql t (dz env x) .nilFunc:Sem Value);pure (Next.value v):Sem Next).run P w=_
    rw [run_bind,e1]
    rfl
   ·exact h.elim
  ·exact .inl (nB hT h)
 ·rename_i c mC
  split at h
  ·rename_i f hf
   split at h
   ·rename_i ht
    rcases h with h|⟨l,hv,h⟩
    ·refine .inl (nB hT ?_)
     unfold G5
     simp only [mC,hf,if_pos ht]
     exact h
    ·refine .inr ⟨l,_,GF mC hf hv,(fun c' tG=>by rw [mC]at tG;cases tG),fun w' On=>?_⟩
     obtain⟨fn,tmps,assign,body,h1,h2⟩:=h w' On
     refine⟨fn,tmps,assign,body,h1,h2.mono fun e w2 ⟨v,he,hs,hr⟩=>?_⟩
     obtain⟨u,hu,hk⟩:=oB hr
     exact⟨v,he,hs,hu▸hk⟩
   ·exact .inl (nB hT h)
  ·exact .inl (nB hT h)
 ·exact .inl (nB hT h)
theorem Bq(hT:mH P T){ops:Array Oper}(hd:uY ops=true){Q:Kc}:∀(l:List Oper) (k:Nat) (env:LV) (w:World),(∀i,l[i]?=ops[k+i]?)→gj w0 w →
  Cn P T ops l env w.heap (Q .normal)→wpOpsIn Fence.wide n P ops (I1 D w0 Q) (List.range' k l.length) (j9 env D) w:=by
 intro l
 induction l with
 |nil=>intro k env w _ hs h;exact⟨hs,env,rfl,h⟩
 |cons o rest ih =>
  intro k env w hl hs h
  have ho:ops[k]?=some o:=by have:=hl 0;simpa using this.symm
  have Ff:∀i,rest[i]?=ops[k+1+i]?:=fun i=>by have:=hl (i+1);rw [show k+(i+1)=k+1+i by omega]at this;simpa using this
  rw [dF,me,wpOpsIn_cons]
  unfold wpOpIn
  simp only [ho]
  have e:(j9 env D).tmps=env.toArray:=rfl
  rw [e]
  unfold Cn at h
  rcases vq h with⟨hw,h⟩|⟨hw,h⟩
  ·rw [if_pos hw]
   rcases MQ hT h with h|⟨yl,args,Ca,Jf,hy⟩
   ·exact Up (ro:=none) (KY hd ho) (yu.wp hs h fun v w' nq hk=>ih (k+1) _ w' Ff nq hk)
   ·obtain⟨fn,tmps,assign,body,h1,h2⟩:=hy w rfl
    refine⟨fun _ _=>trivial,?_⟩
    rw [Oper.semAt_eq _ _ _ Jf,mK,Ca,h1,Oper.uponIn_round]
    refine⟨nofun,h2.1,fun c cs _=>?_⟩
    obtain⟨e,w',⟨v,he,nq,hk⟩,GV⟩:=h2.2 c cs (room_wide _)
    subst he
    refine⟨.returned v,w',?_,GV⟩
    show wpOpsIn Fence.wide n P ops (I1 D w0 Q) _ ((j9 env D).put o.dst v) w'
    rw [om]
    exact ih (k+1) _ w' Ff (hs.trans nq) hk
  ·rw [hw]
   simp only [dy,if_false]
   rw [om]
   exact⟨fun _ _=>trivial,ih (k+1) _ w Ff hs h⟩
theorem Pv {lv:Nat→LN}(hm:P.follows .mixedOrders=true)(hT:mH P T):∀(c:Code),kR c=true→po c=true→∀(Q:Kc) (env:LV) (w:World),gj w0 w→uw P T lv c Q env w.heap →
  c.wpIn Fence.wide n P (I1 D w0 Q) (j9 env D) w:=by
 intro c
 induction c with
 |skip=>exact fun _ _ Q env w hs h=>wpIn_skip ⟨hs,env,rfl,h⟩
 |ret=>exact fun _ _ Q env w hs h=>wpIn_ret ⟨hs,env,rfl,h⟩
 |exit id=>exact fun _ _ Q env w hs h=>wpIn_exit ⟨hs,env,rfl,h⟩
 |seq a b I6 I5 =>
  intro hn hd Q env w hs h
  simp only [kR,po,eD]at hn hd
  refine wpIn_seq (wpIn_mono (I6 hn.1 hd.1 _ env w hs h) fun e a' w' hl=>?_)
  obtain⟨nq,hD,rfl,hl⟩:=hl
  cases e<;>first|exact hl.elim|exact⟨nq,hD,rfl,hl⟩|exact I5 hn.2 hd.2 Q hD w' nq hl
 |cond c a b I6 I5 =>
  intro hn hd Q env w hs h
  simp only [kR,po,eD]at hn hd
  unfold uw at h
  split at h
  ·rename_i t hc
   have tG:(j9 env D).eval c=.bool t:=by rw [mK];exact hc
   rcases h.split with⟨rfl,hx⟩|⟨rfl,hx⟩
   ·exact wpIn_cond_true tG (I6 hn.1 hd.1 Q env w hs hx)
   ·exact wpIn_cond_false tG (I5 hn.2 hd.2 Q env w hs hx)
  ·exact h.elim
 |block id c ih =>
  intro hn hd Q env w hs h
  refine wpIn_block (wpIn_mono (ih hn hd _ env w hs h) fun e a' w' hl=>?_)
  obtain⟨nq,hD,rfl,hl⟩:=hl
  cases e with
  |exit Nn =>
   show if Nn=id then _ else _
   simp only [As]at hl
   split at hl
   ·rename_i iA;rw [if_pos iA];exact⟨nq,hD,rfl,hl⟩
   ·rename_i iA;rw [if_neg iA];exact⟨nq,hD,rfl,hl⟩
  |_=>first|exact hl.elim|exact⟨nq,hD,rfl,hl⟩
 |loop c ih =>
  intro hn hd Q env w hs h
  obtain⟨I,m,hg,round⟩:=h
  have h0:I m env w.heap:=by
   have:=hg fun k=>env.getD k undef
   have e:lU env.length (vR (lv (sZ c)) env) (fun k=>env.getD k undef)=env:=vT _ _
   rwa [e]at this
  refine CB (fun m a w=>gj w0 w∧∃env,a=j9 env D∧I m env w.heap) m ⟨hs,env,rfl,h0⟩ fun m a w hI=>?_
  obtain⟨nq,hD,rfl,hI⟩:=hI
  refine wpIn_mono (ih hn hd _ hD w nq (round m hD w.heap hI)) fun e a' w' hl=>?_
  obtain⟨LC,C6,rfl,hl⟩:=hl
  cases e<;>first|exact hl.elim|exact⟨LC,C6,rfl,hl⟩ | (obtain⟨m',fE,hm'⟩:=hl;exact⟨m',fE,LC,C6,rfl,hm'⟩)
 |region id ops tI =>
  intro hn hd Q env w hs h
  unfold uw at h
  cases tI with
  |false =>
   simp only [dy,if_false]at h
   refine wpIn_region ?_
   have:=Bq (P:=P) (D:=D) (w0:=w0) (n:=n) hT (ops:=ops) hd ops.toList 0 env w (fun i=>by simp) hs h
   rw [fx]at this
   rwa [lC]
  |true =>
   simp only [if_true]at h
   exact xY (ro:=none) hm hT (.region id ops true) hn hd Q env w hs h
 |_=>exact fun _ _ Q env w hs h=>h.elim
def aiQ(P:Program)(T:tD)(lv:Nat→LN)(fn:Func)(c:Code)(ik:List VK)(args:LV)(h:Hp)(R:RP):Prop :=
 uw P T lv c (eJ P fn ik R) (ue fn args) h
theorem zG {lv:Nat→LN}(hm:P.follows .mixedOrders=true)(hT:mH P T){f:FuncId}{fn:Func}{c:Code}{ik:List VK}{args:LV}{h:Hp}{R:RP}(hf:P.funcs[f]?=some fn)(hb:fn.body=some c)
  (hn:kR c=true) (hd:po c=true) (he:aiQ P T lv fn c ik args h R):bq P f args.toArray h R:=by
 intro w hw
 subst hw
 refine(callsIn_wide (n:=0)).1 (callsIn_of_wp hf hb trivial ?_)
 have key:=Pv (D:=[]) (w0:=w) (n:=0) hm hT c hn hd _ _ w (gj.refl _) he
 have e:({tmps:=args.toArray++Array.replicate (fn.ntmps-args.toArray.size) undef,defers:=[]}:Act)=j9 (ue fn args) []:=by
  unfold j9 ue
  congr 1
  apply gd
  simp
 rw [e]
 refine wpIn_mono key fun e a w' hl=>?_
 obtain⟨hs,env,rfl,hl⟩:=hl
 cases e<;>first|exact hl.elim|skip
 all_goals
  obtain⟨v,vs,hr,hk⟩:=nm _ _ _ _ hl
  exact⟨rfl,v,hr,v,rfl,hs,hk⟩
def Dk(fn:FuncId)(tmps:LV)(ps:Array Tmp)(assign body:Code)(b:Nat)(st:LoopState)(ph:Option Code):Loop :=
 {state:=st,pending:=ph,fn,tmps:=tmps.toArray,params:=ps,assign,body,defers:=b}
def yU(P:Program)(T:tD)(v:Value)(ps:Array Tmp)(assign body:Code)(l:List (Nat × Value)) (N:Nat) (h:Hp) (K:Option Code→Hp→Prop):Prop :=
 ∃g first cap,v=.func (.func g) first cap∧vE P g∧∀(fn:FuncId) (gl:Nat→Value),
  bq P g (first.toList++[Value.func (.yield (h.size+1)) #[] #[]]++cap.toList).toArray ((h.push (.deferred (some []))).push (.loop (Dk fn (lU N l gl) ps assign body h.size .ready none))) fun _ h' =>
   ∃st ph,h'[h.size+1]?=some (.loop (Dk fn (lU N l gl) ps assign body h.size st ph))∧st≠.busy∧K ph (h'.setIfInBounds (h.size+1) (.loop (Dk fn (lU N l gl) ps assign body h.size .exhausted ph)))
def CA(kn kr:Hp→Prop)(ke:Nat→Hp→Prop):Option Code→Hp→Prop
 |none,h=>kn h
 |some .ret,h=>kr h
 |some (.exit id),h=>ke id h
 |_,_=>False
def aji(Q:P1)(D:List Deferred)(env:LV):Option Code→Hp→Prop:=CA (Q .normal D env) (Q .ret D env) fun id=>Q (.exit id) D env
def SE:Code→Code
 | .rangeFunc _ _ a _=>a
 |c=>c
def SD:Code→Code
 | .rangeFunc _ _ _ b=>b
 |c=>c
def lM(P:Program)(T:tD)(lv:Nat→LN):LN→Code→List (Kc→Kc)→Kc→Kc
 | [],_,_,Q=>Q
 | 0::π,.seq a b,lk,Q=>lM P T lv π a lk (aan (uw P T lv b Q) Q)
 |_::π,.seq _ b,lk,Q=>lM P T lv π b lk Q
 | 0::π,.cond _ a _,lk,Q=>lM P T lv π a lk Q
 |_::π,.cond _ _ b,lk,Q=>lM P T lv π b lk Q
 |_::π,.block id c,lk,Q=>lM P T lv π c lk (As id Q)
 |_::π,.loop c,k::lk,Q=>lM P T lv π c lk (k Q)
 |_,_,_,Q=>Q
def JO(P:Program)(T:tD)(lv:Nat→LN):Code→P1→List Deferred→LV→Hp→Prop
 | .seq a b,Q,D,env,h=>JO P T lv a (ady (JO P T lv b Q) Q) D env h
 | .cond c a b,Q,D,env,h=>match dz env c with
  | .bool t=>bX t (JO P T lv a Q D env h) (JO P T lv b Q D env h)
  |_=>False
 | .block id c,Q,D,env,h=>JO P T lv c (DQ id Q) D env h
 | .region id ops tI,Q,D,env,h=>if tI=true then kJ P T lv (.region id ops tI) (xi Q D) env h else Cn P T ops ops.toList env h (xi Q D .normal)
 | .skip,Q,D,env,h=>Q .normal D env h
 | .ret,Q,D,env,h=>Q .ret D env h
 | .exit id,Q,D,env,h=>Q (.exit id) D env h
 | .loop c,Q,D,env,h=>kJ P T lv (.loop c) (xi Q D) env h
 | .rangeFunc g ps assign body,Q,D,env,h=>yU P T (dz env g) ps assign body (vR (lv (sZ assign)) env) env.length h (aji Q ({target:=.collected h.size,args:=#[]}::D) env)
 |_,_,_,_,_=>False
theorem Pw {lv:Nat→LN}(hm:P.follows .mixedOrders=true)(hT:mH P T):∀(c:Code),kR c=true→po c=true→∀(Q:P1) (D:List Deferred) (env:LV) (w:World),gj w0 w →
  JO P T lv c Q D env w.heap→c.wp P (QZ w0 Q) (j9 env D) w:=by
 intro c
 induction c with
 |skip=>exact fun _ _ Q D env w hs h=>wp_skip ⟨hs,D,env,rfl,h⟩
 |ret=>exact fun _ _ Q D env w hs h=>wp_ret ⟨hs,D,env,rfl,h⟩
 |exit id=>exact fun _ _ Q D env w hs h=>wp_exit ⟨hs,D,env,rfl,h⟩
 |seq a b I6 I5 =>
  intro hn hd Q D env w hs h
  simp only [kR,po,eD]at hn hd
  refine wp_seq (wp_mono (I6 hn.1 hd.1 _ D env w hs h) fun e a' w' hl=>?_)
  obtain⟨nq,D',hD,rfl,hl⟩:=hl
  cases e<;>first|exact hl.elim|exact⟨nq,D',hD,rfl,hl⟩|exact I5 hn.2 hd.2 Q D' hD w' nq hl
 |cond c a b I6 I5 =>
  intro hn hd Q D env w hs h
  simp only [kR,po,eD]at hn hd
  unfold JO at h
  split at h
  ·rename_i t hc
   have tG:(j9 env D).eval c=.bool t:=by rw [mK];exact hc
   rcases h.split with⟨rfl,hx⟩|⟨rfl,hx⟩
   ·exact wp_cond_true tG (I6 hn.1 hd.1 Q D env w hs hx)
   ·exact wp_cond_false tG (I5 hn.2 hd.2 Q D env w hs hx)
  ·exact h.elim
 |block id c ih =>
  intro hn hd Q D env w hs h
  refine wp_block (wp_mono (ih hn hd _ D env w hs h) fun e a' w' hl=>?_)
  obtain⟨nq,D',hD,rfl,hl⟩:=hl
  cases e with
  |exit Nn =>
   show if Nn=id then _ else _
   simp only [DQ]at hl
   split at hl
   ·rename_i iA;rw [if_pos iA];exact⟨nq,D',hD,rfl,hl⟩
   ·rename_i iA;rw [if_neg iA];exact⟨nq,D',hD,rfl,hl⟩
  |_=>first|exact hl.elim|exact⟨nq,D',hD,rfl,hl⟩
 |loop c ih =>
  intro hn hd Q D env w hs h
  exact wp_mono (sF (D:=D) hm hT (.loop c) hn (xi Q D) env w hs h) fun e a' w' hl=>sT hl
 |region id ops tI =>
  intro hn hd Q D env w hs h
  unfold JO at h
  cases tI with
  |false =>
   simp only [dy,if_false]at h
   refine(wpIn_wide (n:=0)).1 (wpIn_region ?_)
   have:=Bq (P:=P) (D:=D) (w0:=w0) (n:=0) (Q:=xi Q D) hT (ops:=ops) hd ops.toList 0 env w (fun i=>by simp) hs h
   rw [fx,←lC]at this
   exact qG (fun e a' w' hl=>sT hl) (fun⟨_,_,_,_,_,h⟩=>h) _ _ _ this
  |true =>
   simp only [if_true]at h
   exact wp_mono (sF (D:=D) hm hT (.region id ops true) hn (xi Q D) env w hs h) fun e a' w' hl=>sT hl
 |rangeFunc g ps assign body _ _ =>
  intro hn hd Q D env w hs h
  refine(wpIn_wide (n:=0)).1 (wpIn_rangeFunc (F:=Fence.wide) fun fn _=>?_)
  obtain⟨f,first,cap,hv,atP,rP⟩:=h
  have auK:lU env.length (vR (lv (sZ assign)) env) (fun k=>env.getD k undef)=env:=vT _ _
  have rP:=rP fn fun k=>env.getD k undef
  rw [auK]at rP
  let w1:World:=(w.alloc (.deferred (some []))).alloc (.loop (Dk fn env ps assign body w.heap.size .ready none))
  have Fi:(j9 env D).eval g=.func (.func f) first cap:=by rw [mK];exact hv
  refine⟨w.heap.size+1,[{target:=.collected w.heap.size,args:=#[]}],w1,{target:=.fn (.func f) cap,args:=first++#[Value.func (.yield (w.heap.size+1)) #[] #[]]},w1,f,(first.toList++[Value.func (.yield (w.heap.size+1)) #[] #[]]++cap.toList).toArray,w1,run_enterLoop_outer ..,?_,fun _ _=>trivial,?_,nofun,?_⟩
  ·simp only [resolve,Fi,Deferred.ofValue,cH,List.map_toArray,cU,kI]
   rfl
  ·have:=atP (first++#[Value.func (.yield (w.heap.size+1)) #[] #[]]++cap) w1
   simp only [invoke]
   rw [this]
   congr 2
   apply gd
   simp
  ·refine callsIn_wide.2 ((rP w1 rfl).mono fun e w3 ⟨v,he,hs3,st,ph,hl,hb,hk⟩=>?_)
   subst he
   have s3:gj w0 (w3.putObj (w.heap.size+1) (.loop (Dk fn env ps assign body w.heap.size .exhausted ph))):=(hs.trans ⟨rfl,rfl,rfl,bH _⟩:gj w0 w1).trans (hs3.trans tS)
   refine⟨ph,w3.putObj (w.heap.size+1) (.loop (Dk fn env ps assign body w.heap.size .exhausted ph)),run_endLoop hl hb,?_⟩
   cases ph with
   |none=>exact⟨s3,_,env,rfl,hk⟩
   |some j =>
    cases j<;>first|exact hk.elim|skip
    ·exact wpIn_exit ⟨s3,_,env,rfl,hk⟩
    ·exact wpIn_ret ⟨s3,_,env,rfl,hk⟩
 |_=>exact fun _ _ Q D env w hs h=>h.elim
def E5(P:Program)(fn:Func)(ik:List VK)(R:RP):List Deferred→LV→Hp→Prop
 | [],env,h=>qU P (results fn env.toArray) ik h fun v _=>R v h
 |d::ds,env,h=>match d.target with
  | .collected r=>h[r]?=some (.deferred (some []))∧E5 P fn ik R ds env (h.setIfInBounds r (.deferred none))
  |_=>False
theorem I2 {fn:Func}{ik:List VK}{R:RP}:∀(D:List Deferred) (env:LV) (w:World),gj w0 w→E5 P fn ik R D env w.heap →
  LeavesInM Fence.wide 0 P fn env.toArray (fun e w'=>∃v,e=.returned v∧gj w0 w'∧R v w'.heap) D .returning w:=by
 intro D
 induction D with
 |nil =>
  intro env w hs h
  obtain⟨v,vs,hr,hk⟩:=nm _ _ _ _ h
  exact⟨v,hr,v,rfl,hs,hk⟩
 |cons d ds ih =>
  intro env w hs h
  unfold E5 at h
  split at h
  ·rename_i r abc
   exact⟨nofun,.inl ⟨r,_,abc,run_takeDeferred h.1,ih env _ (hs.trans tS) h.2⟩⟩
  ·exact h.elim
def ai7(P:Program)(fn:Func)(ik:List VK)(R:RP):P1
 | .normal,D,env,h=>E5 P fn ik R D env h
 | .ret,D,env,h=>E5 P fn ik R D env h
 |_,_,_,_=>False
def acz(P:Program)(T:tD)(lv:Nat→LN)(fn:Func)(c:Code)(ik:List VK)(args:LV)(h:Hp)(R:RP):Prop :=
 JO P T lv c (ai7 P fn ik R) [] (ue fn args) h
theorem uz {lv:Nat→LN}(hm:P.follows .mixedOrders=true)(hT:mH P T){f:FuncId}{fn:Func}{c:Code}{ik:List VK}{args:LV}{h:Hp}{R:RP}(hf:P.funcs[f]?=some fn)(hb:fn.body=some c)
  (hn:kR c=true) (hd:po c=true) (he:acz P T lv fn c ik args h R):bq P f args.toArray h R:=by
 intro w hw
 subst hw
 refine(callsIn_wide (n:=0)).1 (callsIn_of_wp_marks hf hb trivial ?_)
 have key:=wpIn_wide (n:=0) |>.2 (Pw (w0:=w) hm hT c hn hd _ _ _ w (gj.refl _) he)
 have e:({tmps:=args.toArray++Array.replicate (fn.ntmps-args.toArray.size) undef,defers:=[]}:Act)=j9 (ue fn args) []:=by
  unfold j9 ue
  congr 1
  apply gd
  simp
 rw [e]
 refine wpIn_mono key fun e a w' hl=>?_
 obtain⟨hs,D,env,rfl,hl⟩:=hl
 cases e<;>first|exact hl.elim|skip
 all_goals exact I2 D env w' hs hl
end
section
end
end Go.Ev
