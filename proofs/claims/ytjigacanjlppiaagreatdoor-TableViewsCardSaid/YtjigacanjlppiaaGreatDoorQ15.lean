/- Printed by a program (own work) out of the l. No condition. -/
import Derived.Test.YtjigacanjlppiaaGreatDoorQ14
import Derived.JoinedOf
import Derived.SevenTiedAt
set_option linter.all false
set_option maxRecDepth 1000000
open Go.IntKind (wrap)
namespace Go.Ev
open Go.Proofs
def lv6(m:Nat):LN:=if m=8 then [1,3,4,5,6]else if m=15 then [1,3,4,5,7,8,9]else if m=22 then [5,12]else if m=29 then [1,3,4,5,7,8,9,13]else []
def avl(J:Nat→Addr→OA→OA→Addr→Int→Int→Int→Hp→Prop):Nat→LV→Hp→Prop:=IL 168 [(1,.a),(3,.p),(4,.p),(5,.a),(7,.i .u64),(8,.i .i64),(9,.i .i64)] J
def apk  (b:Addr) (a c:OA) (d:Bool) (h:Hp) (R:RP):Prop:=bX d (R ((vb (!(Option.isNone a)):Value)) h) (gi (h.push (.cells #[.slice none 0 0,.slice none 0 0,.slice none 0 0] 54)) fun e=>dO (kJ PG fN lv6 (sub [1,1,1,1,1,0,1,0,0] (bd Tryz.f6))) (dW PG fN lv6 [1,1,1,1,1,0,1,0] (bd Tryz.f6) [] (eJ PG Tryz.f6 [] R)) [(1,vp (some b)),(3,vp a),(4,vp c),(5,vp (some (nb h))),(6,vi 0)] 168 e)
def auu(J1:Nat→Addr→OA→OA→Addr→Int→Hp→Prop)(n1:Nat)(l:Addr)(p q:OA)(d:Addr)(b:Int)(g:Nat→Value)(h:Hp)(R:RP):Prop:=∃o:Sl,cell h (l.add 2)=some (.slice o.a o.n o.c)∧bX (decide (b<(o.n:Int))) (∃i:Sl,cell h (l.add 2)=some (.slice i.a i.n i.c)∧(0≤b∧b<(i.n:Int))∧bE i.a fun j=>∃s:Bool,cell h (j.add (b.toNat*5))=some (vb s)∧∃e:Sl,cell h ((j.add (b.toNat*5)).add 1)=some (.slice e.a e.n e.c)∧∃t:Int,cell h ((j.add (b.toNat*5)).add 2)=some (vu t)∧∃u:Int,cell h ((j.add (b.toNat*5)).add 3)=some (vu u)∧∃v:Int,cell h ((j.add (b.toNat*5)).add 4)=some (vi v)∧bq PG 29 #[vp (some d),vp q,vp p,.agg #[vb s,.slice e.a e.n e.c,vu t,vu u,vi v]] h fun r w=>∃x:Bool,r=vb x∧bX (!x) (R (vb false:Value) w) (∃m,m<n1∧J1 m l p q d (wrap .i64 (b+(1:Int))) w)) (∃f:Sl,cell h (d.add 1)=some (.slice f.a f.n f.c)∧∃k:Sl,cell h d=some (.slice k.a k.n k.c)∧im 39 1 24 #[.slice none 0 0] f.a f.n f.c k.a k.n h fun y z A B=>St B (d.add 1) (.slice y z A) fun C=>dO (kJ PG fN lv6 (sub [1,1,1,1,1,1,1,1,0,1,0,0] (bd Tryz.f6))) (dW PG fN lv6 [1,1,1,1,1,1,1,1,0,1,0] (bd Tryz.f6) [] (eJ PG Tryz.f6 [] R)) [(1,vp (some l)),(3,vp p),(4,vp q),(5,vp (some d)),(7,vu 0),(8,vi 0),(9,vi 0)] 168 C)
abbrev avv(R:RP)(a:Addr)(b c:OA)(d:Addr)(e:Int)(f:Hp):Prop:=dO (kJ PG fN lv6 (sub [1,1,1,1,1,0,1,0,0] (bd Tryz.f6))) (dW PG fN lv6 [1,1,1,1,1,0,1,0] (bd Tryz.f6) [] (eJ PG Tryz.f6 [] R)) [(1,vp (some a)),(3,vp b),(4,vp c),(5,vp (some d)),(6,vi e)] 168 f
theorem as6 {R:RP}{s1:Addr}{s3 s4:OA}{s5:Addr}{s6:Int}{h0:Hp}(J:Nat→Addr→OA→OA→Addr→Int→Hp→Prop)(n0:Nat)(hi:J n0 s1 s3 s4 s5 s6 h0)(hr:∀n s1 s3 s4 s5 s6 g h,J n s1 s3 s4 s5 s6 h→auu  J n s1 s3 s4 s5 s6 g h R):avv R s1 s3 s4 s5 s6 h0:=iz (l:=[(1,.a),(3,.p),(4,.p),(5,.a),(6,.i .i64)]) (J:=J) (n0:=n0) (s1,s3,s4,s5,s6,()) hi (fun n s1 s3 s4 s5 s6 g h=>auu  J n s1 s3 s4 s5 s6 g h R) hr
abbrev avh(J2:Nat→Addr→OA→OA→Addr→Int→Int→Int→Hp→Prop)(n2:Nat)(R:RP)(a:Addr)(b:Int)(c:Hp):Prop:=dO (kJ PG fN lv6 (sub [1,1,1,1,1,1,1,1,0,1,0,0,1,0,0,1,1,0,1,0,0,1,0,0] (bd Tryz.f6))) (dW PG fN lv6 [1,1,1,1,1,1,1,1,0,1,0,0,1,0,0,1,1,0,1,0,0,1,0] (bd Tryz.f6) [sS (avl J2) n2] (eJ PG Tryz.f6 [] R)) [(5,vp (some a)),(12,vi b)] 168 c
abbrev avg(J2:Nat→Addr→OA→OA→Addr→Int→Int→Int→Hp→Prop)(n2:Nat)(R:RP)(a:Addr)(b c:OA)(d:Addr)(e f g h:Int)(i:Hp):Prop:=dO (kJ PG fN lv6 (sub [1,1,1,1,1,1,1,1,0,1,0,0,1,0,0,1,1,1,1,1,0,0] (bd Tryz.f6))) (dW PG fN lv6 [1,1,1,1,1,1,1,1,0,1,0,0,1,0,0,1,1,1,1,1,0] (bd Tryz.f6) [sS (avl J2) n2] (eJ PG Tryz.f6 [] R)) [(1,vp (some a)),(3,vp b),(4,vp c),(5,vp (some d)),(7,vu e),(8,vi f),(9,vi g),(13,vi h)] 168 i
def ave(J2:Nat→Addr→OA→OA→Addr→Int→Int→Int→Hp→Prop)(n2:Nat)(f:Addr)(l o:OA)(i:Addr)(p q m:Int)(g:Nat→Value)(h:Hp)(R:RP):Prop:=∃j:Sl,cell h (f.add 2)=some (.slice j.a j.n j.c)∧∃k:Sl,cell h (f.add 3)=some (.slice k.a k.n k.c)∧bX (decide (m≤(wrap .i64 ((wrap .i64 ((1:Int)+(j.n:Int)))+(k.n:Int))))) (∃s:Int,cell h (f.add 1)=some (vi s)∧bq PG 30 #[vp l,vu p,vi s] h fun r u=>∃b:Int,∃d:Sl,r=vt #[vu b,.slice d.a d.n d.c]∧bq PG 31 #[vp (some i),.slice d.a d.n d.c] u fun r e=>∃t:Bool,r=vb t∧bX (!t) (R (vb false:Value) e) (bX (b != (0:Int)) (bX (decide (b≤p)) (R (vb false:Value) e) (bX ((d.n:Int)==(0:Int)) (R (vb false:Value) e) (bX (b==(0:Int)) (avh J2 n2 R i 0 e) (avg J2 n2 R f l o i b q m 0 e)))) (bX (b==(0:Int)) (avh J2 n2 R i 0 e) (avg J2 n2 R f l o i b q m 0 e)))) (R (vb false:Value) h)
abbrev avu(R:RP)(a:Addr)(b c:OA)(d:Addr)(e f g:Int)(h:Hp):Prop:=dO (kJ PG fN lv6 (sub [1,1,1,1,1,1,1,1,0,1,0,0] (bd Tryz.f6))) (dW PG fN lv6 [1,1,1,1,1,1,1,1,0,1,0] (bd Tryz.f6) [] (eJ PG Tryz.f6 [] R)) [(1,vp (some a)),(3,vp b),(4,vp c),(5,vp (some d)),(7,vu e),(8,vi f),(9,vi g)] 168 h
theorem apj {R:RP}{s1:Addr}{s3 s4:OA}{s5:Addr}{s7 s8 s9:Int}{h0:Hp}(J:Nat→Addr→OA→OA→Addr→Int→Int→Int→Hp→Prop)(n0:Nat)(hi:J n0 s1 s3 s4 s5 s7 s8 s9 h0)(hr:∀n s1 s3 s4 s5 s7 s8 s9 g h,J n s1 s3 s4 s5 s7 s8 s9 h→ave  J n s1 s3 s4 s5 s7 s8 s9 g h R):avu R s1 s3 s4 s5 s7 s8 s9 h0:=iz (l:=[(1,.a),(3,.p),(4,.p),(5,.a),(7,.i .u64),(8,.i .i64),(9,.i .i64)]) (J:=J) (n0:=n0) (s1,s3,s4,s5,s7,s8,s9,()) hi (fun n s1 s3 s4 s5 s7 s8 s9 g h=>ave  J n s1 s3 s4 s5 s7 s8 s9 g h R) hr
def avd(J2:Nat→Addr→OA→OA→Addr→Int→Int→Int→Hp→Prop)(n2:Nat)(J3:Nat→Addr→Int→Hp→Prop)(n3:Nat)(i:Addr)(e:Int)(g:Nat→Value)(h:Hp)(R:RP):Prop:=∃j:Sl,cell h (i.add 1)=some (.slice j.a j.n j.c)∧bX (decide (e<(j.n:Int))) (∃b:Sl,cell h (i.add 2)=some (.slice b.a b.n b.c)∧∃f:Sl,cell h (i.add 1)=some (.slice f.a f.n f.c)∧(0≤e∧e<(f.n:Int))∧bE f.a fun l=>∃d:Sl,cell h (l.add (e.toNat*1))=some (.slice d.a d.n d.c)∧∃k:Int,bq PG 22 #[.slice b.a b.n b.c,.slice d.a d.n d.c] h (fun v h'=>v=(vi k)∧h'=h)∧bX (decide (k<(0:Int))) (R (vb false:Value) h) (∃m,m<n3∧J3 m i (wrap .i64 (e+(1:Int))) h)) (R (vb true:Value) h)
theorem api {J2:Nat→Addr→OA→OA→Addr→Int→Int→Int→Hp→Prop}{n2:Nat}{R:RP}{s5:Addr}{rO:Int}{h0:Hp}(J:Nat→Addr→Int→Hp→Prop)(n0:Nat)(hi:J n0 s5 rO h0)(hr:∀n s5 rO g h,J n s5 rO h→avd J2 n2 J n s5 rO g h R):avh J2 n2 R s5 rO h0:=iz (l:=[(5,.a),(12,.i .i64)]) (J:=J) (n0:=n0) (s5,rO,()) hi (fun n s5 rO g h=>avd J2 n2 J n s5 rO g h R) hr
def avc(J2:Nat→Addr→OA→OA→Addr→Int→Int→Int→Hp→Prop)(n2:Nat)(J4:Nat→Addr→OA→OA→Addr→Int→Int→Int→Int→Hp→Prop)(n4:Nat)(d:Addr)(i e:OA)(j:Addr)(s b k u:Int)(g:Nat→Value)(h:Hp)(R:RP):Prop:=(4:Int)≠0∧bX (decide (u<(wrap .i64 ((1:Int)+(Int.tmod k (4:Int)))))) (∃t:Sl,cell h (d.add 3)=some (.slice t.a t.n t.c)∧bX (decide (b<(t.n:Int))) (∃l:Sl,cell h (d.add 3)=some (.slice l.a l.n l.c)∧(0≤b∧b<(l.n:Int))∧bE l.a fun o=>∃v:Bool,cell h (o.add (b.toNat*5))=some (vb v)∧∃f:Sl,cell h ((o.add (b.toNat*5)).add 1)=some (.slice f.a f.n f.c)∧∃w:Int,cell h ((o.add (b.toNat*5)).add 2)=some (vu w)∧∃x:Int,cell h ((o.add (b.toNat*5)).add 3)=some (vu x)∧∃y:Int,cell h ((o.add (b.toNat*5)).add 4)=some (vi y)∧bq PG 29 #[vp (some j),vp e,vp i,.agg #[vb v,.slice f.a f.n f.c,vu w,vu x,vi y]] h fun r p=>∃z:Bool,r=vb z∧bX (!z) (R (vb false:Value) p) (∃q:Sl,cell p (d.add 3)=some (.slice q.a q.n q.c)∧(0≤b∧b<(q.n:Int))∧bE q.a fun B=>∃A:Int,cell p ((B.add (b.toNat*5)).add 3)=some (vu A)∧(8:Int)≠0∧bX ((Int.tmod A (8:Int))==(0:Int)) (bq PG 32 #[vp e] p fun r C=>r=vt #[]∧∃m,m<n4∧J4 m d i e j s (wrap .i64 (b+(1:Int))) k (wrap .i64 (u+(1:Int))) C) (∃m,m<n4∧J4 m d i e j s (wrap .i64 (b+(1:Int))) k (wrap .i64 (u+(1:Int))) p))) (∃m,m<n2∧J2 m d i e j s b (wrap .i64 (k+(1:Int))) h)) (∃m,m<n2∧J2 m d i e j s b (wrap .i64 (k+(1:Int))) h)
theorem aph {J2:Nat→Addr→OA→OA→Addr→Int→Int→Int→Hp→Prop}{n2:Nat}{R:RP}{s1:Addr}{s3 s4:OA}{s5:Addr}{s7 s8 s9 Sx:Int}{h0:Hp}(J:Nat→Addr→OA→OA→Addr→Int→Int→Int→Int→Hp→Prop)(n0:Nat)(hi:J n0 s1 s3 s4 s5 s7 s8 s9 Sx h0)(hr:∀n s1 s3 s4 s5 s7 s8 s9 Sx g h,J n s1 s3 s4 s5 s7 s8 s9 Sx h→avc J2 n2 J n s1 s3 s4 s5 s7 s8 s9 Sx g h R):avg J2 n2 R s1 s3 s4 s5 s7 s8 s9 Sx h0:=iz (l:=[(1,.a),(3,.p),(4,.p),(5,.a),(7,.i .u64),(8,.i .i64),(9,.i .i64),(13,.i .i64)]) (J:=J) (n0:=n0) (s1,s3,s4,s5,s7,s8,s9,Sx,()) hi (fun n s1 s3 s4 s5 s7 s8 s9 Sx g h=>avc J2 n2 J n s1 s3 s4 s5 s7 s8 s9 Sx g h R) hr
def f6F(o p:Int)(i j:Sl)(h:Hp)(R:RP):Prop:=gi (h.push (.cells #[vu o,vi p,.slice i.a i.n i.c,.slice j.a j.n j.c] 30)) fun q=>bq PG 19 #[] q fun r k=>∃l:Bool,r=vb l∧bX (!l) (R (vb false:Value) k) (∃m:Int,cell k (nb h)=some (vu m)∧bq PG 20 #[vi 1000000,vu m] k fun r b=>∃d:OA,∃e:OA,r=vt #[vp d,vp e]∧bX (Option.isNone d) (apk  (nb h) d e true b R) (∃f:Sl,cell b ((nb h).add 2)=some (.slice f.a f.n f.c)∧bX (decide ((f.n:Int)>(300:Int))) (apk  (nb h) d e true b R) (∃g:Sl,cell b ((nb h).add 3)=some (.slice g.a g.n g.c)∧apk  (nb h) d e (decide ((g.n:Int)>(100:Int))) b R)))
theorem avf {pF lf:Int}{an2 anx:Sl}{h:Hp}{R:RP}(hF:f6F pF lf an2 anx h R):bq PG 6 #[.agg #[vu pF,vi lf,vl an2,vl anx]] h R:=iY (lv:=lv6) Tryz.func6 hF
def lv7(m:Nat):LN:=if m=8 then [1,3,4,5,6]else if m=18 then [1,3,4,5,8,9,11]else if m=23 then [1,3,4,5,12]else []
abbrev atq(R:RP)(a:Addr)(b c:OA)(d:Addr)(s8a:OA)(s8n s8c:Nat)(s9a:OA)(s9n s9c:Nat)(e:Int)(f:Hp):Prop:=dO (kJ PG fN lv7 (sub [1,1,1,1,1,1,1,1,1,1,0,1,0,0] (bd Tryz.f7))) (dW PG fN lv7 [1,1,1,1,1,1,1,1,1,1,0,1,0] (bd Tryz.f7) [] (eJ PG Tryz.f7 [] R)) [(1,vp (some a)),(3,vp b),(4,vp c),(5,vp (some d)),(8,.slice s8a s8n s8c),(9,.slice s9a s9n s9c),(11,vi e)] 206 f
def DW  (e:Addr) (f g:OA) (i:Addr) (b d:Sl) (j:Bool) (h:Hp) (R:RP):Prop:=bX j (R (vb false:Value) h) (atq R e f g i b.a b.n b.c d.a d.n d.c 0 h)
def asU  (b:Addr) (a c:OA) (d:Bool) (h:Hp) (R:RP):Prop:=bX d (R ((vb (!(Option.isNone a)):Value)) h) (gi (h.push (.cells #[.slice none 0 0,.slice none 0 0,.slice none 0 0] 54)) fun e=>dO (kJ PG fN lv7 (sub [1,1,1,1,1,0,1,0,0] (bd Tryz.f7))) (dW PG fN lv7 [1,1,1,1,1,0,1,0] (bd Tryz.f7) [] (eJ PG Tryz.f7 [] R)) [(1,vp (some b)),(3,vp a),(4,vp c),(5,vp (some (nb h))),(6,vi 0)] 206 e)
def asS(J1:Nat→Addr→OA→OA→Addr→Int→Hp→Prop)(n1:Nat)(f:Addr)(d k:OA)(i:Addr)(j:Int)(g:Nat→Value)(h:Hp)(R:RP):Prop:=∃v:Sl,cell h (f.add 2)=some (.slice v.a v.n v.c)∧bX (decide (j<(v.n:Int))) (∃s:Sl,cell h (f.add 2)=some (.slice s.a s.n s.c)∧(0≤j∧j<(s.n:Int))∧bE s.a fun t=>∃z:Bool,cell h (t.add (j.toNat*5))=some (vb z)∧∃l:Sl,cell h ((t.add (j.toNat*5)).add 1)=some (.slice l.a l.n l.c)∧∃A:Int,cell h ((t.add (j.toNat*5)).add 2)=some (vu A)∧∃B:Int,cell h ((t.add (j.toNat*5)).add 3)=some (vu B)∧∃C:Int,cell h ((t.add (j.toNat*5)).add 4)=some (vi C)∧bq PG 29 #[vp (some i),vp k,vp d,.agg #[vb z,.slice l.a l.n l.c,vu A,vu B,vi C]] h fun r D=>∃E:Bool,r=vb E∧bX (!E) (R (vb false:Value) D) (∃m,m<n1∧J1 m f d k i (wrap .i64 (j+(1:Int))) D)) (∃w:Sl,cell h (f.add 2)=some (.slice w.a w.n w.c)∧bq PG 30 #[vp d,vu 0,vi (wrap .i64 ((w.n:Int)+(1:Int)))] h fun r N=>∃F:Int,∃b:Sl,r=vt #[vu F,.slice b.a b.n b.c]∧bq PG 26 #[vp d] N fun r O=>∃e:Sl,r=.slice e.a e.n e.c∧bq PG 33 #[vp d,vi (-1)] O fun r y=>∃o:Sl,r=.slice o.a o.n o.c∧bX (F != (0:Int)) (DW  f d k i b e true y R) (∃G:Int,cell y f=some (vu G)∧bq PG 34 #[vu G,.slice b.a b.n b.c] y fun r H=>∃I:Bool,r=vb I∧bX (!I) (DW  f d k i b e true H R) (bq PG 25 #[.slice o.a o.n o.c,.slice b.a b.n b.c] H fun r J=>∃K:Bool,r=vb K∧bX (!K) (DW  f d k i b e true J R) (bq PG 24 #[vp d] J fun r u=>∃L:Int,r=vi L∧bX ((b.n:Int) != L) (DW  f d k i b e true u R) (∃x:Sl,cell u i=some (.slice x.a x.n x.c)∧bX ((b.n:Int) != (x.n:Int)) (DW  f d k i b e true u R) (∃p:Sl,cell u i=some (.slice p.a p.n p.c)∧bq PG 27 #[.slice p.a p.n p.c] u fun r P=>∃q:Sl,r=.slice q.a q.n q.c∧bq PG 25 #[.slice e.a e.n e.c,.slice q.a q.n q.c] P fun r Q=>∃M:Bool,r=vb M∧DW  f d k i b e (!M) Q R))))))
abbrev aug(R:RP)(a:Addr)(b c:OA)(d:Addr)(e:Int)(f:Hp):Prop:=dO (kJ PG fN lv7 (sub [1,1,1,1,1,0,1,0,0] (bd Tryz.f7))) (dW PG fN lv7 [1,1,1,1,1,0,1,0] (bd Tryz.f7) [] (eJ PG Tryz.f7 [] R)) [(1,vp (some a)),(3,vp b),(4,vp c),(5,vp (some d)),(6,vi e)] 206 f
theorem alq {R:RP}{s1:Addr}{s3 s4:OA}{s5:Addr}{s6:Int}{h0:Hp}(J:Nat→Addr→OA→OA→Addr→Int→Hp→Prop)(n0:Nat)(hi:J n0 s1 s3 s4 s5 s6 h0)(hr:∀n s1 s3 s4 s5 s6 g h,J n s1 s3 s4 s5 s6 h→asS  J n s1 s3 s4 s5 s6 g h R):aug R s1 s3 s4 s5 s6 h0:=iz (l:=[(1,.a),(3,.p),(4,.p),(5,.a),(6,.i .i64)]) (J:=J) (n0:=n0) (s1,s3,s4,s5,s6,()) hi (fun n s1 s3 s4 s5 s6 g h=>asS  J n s1 s3 s4 s5 s6 g h R) hr
def asQ(J2:Nat→Addr→OA→OA→Addr→Sl→Sl→Int→Hp→Prop)(n2:Nat)(j:Addr)(k l:OA)(o:Addr)(e f:Sl)(d:Int)(g:Nat→Value)(h:Hp)(R:RP):Prop:=bX (decide (d<(e.n:Int))) ((0≤d∧d<(e.n:Int))∧bE e.a fun s=>∃b:Sl,cell h (s.add (d.toNat*1))=some (.slice b.a b.n b.c)∧bq PG 22 #[.slice f.a f.n f.c,.slice b.a b.n b.c] h fun r p=>∃q:Int,r=vi q∧bX (decide (q<(0:Int))) (R (vb false:Value) p) (∃m,m<n2∧J2 m j k l o e f (wrap .i64 (d+(1:Int))) p)) (∃i:Sl,cell h (j.add 2)=some (.slice i.a i.n i.c)∧dO (kJ PG fN lv7 (sub [1,1,1,1,1,1,1,1,1,1,1,0,1,0,0] (bd Tryz.f7))) (dW PG fN lv7 [1,1,1,1,1,1,1,1,1,1,1,0,1,0] (bd Tryz.f7) [] (eJ PG Tryz.f7 [] R)) [(1,vp (some j)),(3,vp k),(4,vp l),(5,vp (some o)),(12,vi (wrap .i64 ((i.n:Int)-(1:Int))))] 206 h)
theorem alj {R:RP}{s1:Addr}{s3 s4:OA}{s5:Addr}{s8 s9:Sl}{pc:Int}{h0:Hp}(J:Nat→Addr→OA→OA→Addr→Sl→Sl→Int→Hp→Prop)(n0:Nat)(hi:J n0 s1 s3 s4 s5 s8 s9 pc h0)(hr:∀n s1 s3 s4 s5 s8 s9 pc g h,J n s1 s3 s4 s5 s8 s9 pc h→asQ  J n s1 s3 s4 s5 s8 s9 pc g h R):atq R s1 s3 s4 s5 s8.a s8.n s8.c s9.a s9.n s9.c pc h0:=iz (l:=[(1,.a),(3,.p),(4,.p),(5,.a),(8,.l),(9,.l),(11,.i .i64)]) (J:=J) (n0:=n0) (s1,s3,s4,s5,s8,s9,pc,()) hi (fun n s1 s3 s4 s5 s8 s9 pc g h=>asQ  J n s1 s3 s4 s5 s8 s9 pc g h R) hr
def asP(J3:Nat→Addr→OA→OA→Addr→Int→Hp→Prop)(n3:Nat)(u:Addr)(w x:OA)(f:Addr)(b:Int)(g:Nat→Value)(h:Hp)(R:RP):Prop:=bX (decide (b≥(0:Int))) (∃s:Sl,cell h (u.add 2)=some (.slice s.a s.n s.c)∧(0≤b∧b<(s.n:Int))∧bE s.a fun t=>∃C:Bool,cell h (t.add (b.toNat*5))=some (vb C)∧∃i:Sl,cell h ((t.add (b.toNat*5)).add 1)=some (.slice i.a i.n i.c)∧∃D:Int,cell h ((t.add (b.toNat*5)).add 2)=some (vu D)∧∃E:Int,cell h ((t.add (b.toNat*5)).add 3)=some (vu E)∧∃F:Int,cell h ((t.add (b.toNat*5)).add 4)=some (vi F)∧gi (h.push (.cells #[vb false,.slice none 0 0,vu 0,vu 0,vi 0] 41)) fun P=>St P (nb h) (vb C) fun Q=>St Q ((nb h).add 1) (.slice i.a i.n i.c) fun S=>St S ((nb h).add 2) (vu D) fun T=>St T ((nb h).add 3) (vu E) fun U=>St U ((nb h).add 4) (vi F) fun e=>∃j:Sl,cell e f=some (.slice j.a j.n j.c)∧∃k:Sl,cell e ((nb h).add 1)=some (.slice k.a k.n k.c)∧∃G:Int,bq PG 22 #[.slice j.a j.n j.c,.slice k.a k.n k.c] e (fun v h'=>v=(vi G)∧h'=e)∧bX (decide (G<(0:Int))) (∃m,m<n3∧J3 m u w x f (wrap .i64 (b-(1:Int))) e) (∃l:Sl,cell e f=some (.slice l.a l.n l.c)∧∃o:Sl,cell e ((nb h).add 1)=some (.slice o.a o.n o.c)∧bq PG 35 #[.slice l.a l.n l.c,.slice o.a o.n o.c] e fun r V=>∃p:Sl,r=.slice p.a p.n p.c∧St V f (.slice p.a p.n p.c) fun H=>∃q:Sl,cell H ((nb h).add 1)=some (.slice q.a q.n q.c)∧bq PG 28 #[vp w,.slice q.a q.n q.c] H fun r d=>∃y:Int,∃I:Int,∃J:Int,∃K:Int,r=vt #[vu y,vu I,vu J,vi K]∧bX (K != (0:Int)) (R (vb false:Value) d) (∃L:Int,cell d ((nb h).add 2)=some (vu L)∧bX (I != L) (R (vb false:Value) d) (∃M:Int,cell d ((nb h).add 3)=some (vu M)∧bX (J != M) (R (vb false:Value) d) (∃N:Int,cell d ((nb h).add 4)=some (vi N)∧bX (!((y==(0:Int))==((ot .i64 N (1:Int))==(1:Int)))) (R (vb false:Value) d) (bX (y != (0:Int)) (∃A:Int,cell d ((nb h).add 2)=some (vu A)∧bq PG 36 #[vp x,vu y] d fun r B=>∃O:Int,r=vu O∧CI .u64 B ((nb h).add 2) A∧bX (O != A) (R (vb false:Value) B) (∃m,m<n3∧J3 m u w x f (wrap .i64 (b-(1:Int))) B)) (∃m,m<n3∧J3 m u w x f (wrap .i64 (b-(1:Int))) d))))))) (∃z:Sl,cell h f=some (.slice z.a z.n z.c)∧R ((vb ((z.n:Int)==(0:Int)):Value)) h)
abbrev auf(R:RP)(a:Addr)(b c:OA)(d:Addr)(e:Int)(f:Hp):Prop:=dO (kJ PG fN lv7 (sub [1,1,1,1,1,1,1,1,1,1,1,0,1,0,0] (bd Tryz.f7))) (dW PG fN lv7 [1,1,1,1,1,1,1,1,1,1,1,0,1,0] (bd Tryz.f7) [] (eJ PG Tryz.f7 [] R)) [(1,vp (some a)),(3,vp b),(4,vp c),(5,vp (some d)),(12,vi e)] 206 f
theorem aks {R:RP}{s1:Addr}{s3 s4:OA}{s5:Addr}{rO:Int}{h0:Hp}(J:Nat→Addr→OA→OA→Addr→Int→Hp→Prop)(n0:Nat)(hi:J n0 s1 s3 s4 s5 rO h0)(hr:∀n s1 s3 s4 s5 rO g h,J n s1 s3 s4 s5 rO h→asP  J n s1 s3 s4 s5 rO g h R):auf R s1 s3 s4 s5 rO h0:=iz (l:=[(1,.a),(3,.p),(4,.p),(5,.a),(12,.i .i64)]) (J:=J) (n0:=n0) (s1,s3,s4,s5,rO,()) hi (fun n s1 s3 s4 s5 rO g h=>asP  J n s1 s3 s4 s5 rO g h R) hr
def f7F(m o:Int)(e f:Sl)(h:Hp)(R:RP):Prop:=gi (h.push (.cells #[vu m,vi o,.slice e.a e.n e.c,.slice f.a f.n f.c] 30)) fun p=>bq PG 19 #[] p fun r g=>∃k:Bool,r=vb k∧bX (!k) (R (vb false:Value) g) (∃l:Int,cell g (nb h)=some (vu l)∧bq PG 20 #[vi 1000000,vu l] g fun r i=>∃b:OA,∃j:OA,r=vt #[vp b,vp j]∧bX (Option.isNone b) (asU  (nb h) b j true i R) (∃d:Sl,cell i ((nb h).add 2)=some (.slice d.a d.n d.c)∧asU  (nb h) b j (decide ((d.n:Int)>(300:Int))) i R))
theorem asV {pF lf:Int}{an2 anx:Sl}{h:Hp}{R:RP}(hF:f7F pF lf an2 anx h R):bq PG 7 #[.agg #[vu pF,vi lf,vl an2,vl anx]] h R:=iY (lv:=lv7) Tryz.func7 hF
def arE(m:Nat):LN:=if m=8 then [1,3,4,5,6,7]else []
abbrev aqn(R:RP)(a:Addr)(b c d e:OA)(f:Int)(g:Hp):Prop:=dO (kJ PG fN arE (sub [1,1,1,1,1,0,1,0,0] (bd Tryz.f10))) (dW PG fN arE [1,1,1,1,1,0,1,0] (bd Tryz.f10) [] (eJ PG Tryz.f10 [] R)) [(1,vp (some a)),(3,vp b),(4,vp c),(5,vp d),(6,vp e),(7,vi f)] 135 g
def VD  (c:Addr) (a d b e:OA) (f:Bool) (h:Hp) (R:RP):Prop:=bX f (bX (!(Option.isNone a)) (R ((vb (!(Option.isNone b)):Value)) h) (R (vb false:Value) h)) (aqn R c a d b e 0 h)
def ana(J1:Nat→Addr→OA→OA→OA→OA→Int→Hp→Prop)(n1:Nat)(w:Addr)(d v e i:OA)(f:Int)(g:Nat→Value)(h:Hp)(R:RP):Prop:=∃L:Sl,cell h (w.add 2)=some (.slice L.a L.n L.c)∧bX (decide (f<(L.n:Int))) (∃H:Sl,cell h (w.add 2)=some (.slice H.a H.n H.c)∧(0≤f∧f<(H.n:Int))∧bE H.a fun I=>∃O:Bool,cell h (I.add (f.toNat*5))=some (vb O)∧∃y:Sl,cell h ((I.add (f.toNat*5)).add 1)=some (.slice y.a y.n y.c)∧∃P:Int,cell h ((I.add (f.toNat*5)).add 2)=some (vu P)∧∃Q:Int,cell h ((I.add (f.toNat*5)).add 3)=some (vu Q)∧∃S:Int,cell h ((I.add (f.toNat*5)).add 4)=some (vi S)∧gi (h.push (.cells #[vb false,.slice none 0 0,vu 0,vu 0,vi 0] 41)) fun az=>St az (nb h) (vb O) fun aA=>St aA ((nb h).add 1) (.slice y.a y.n y.c) fun aB=>St aB ((nb h).add 2) (vu P) fun aC=>St aC ((nb h).add 3) (vu Q) fun aD=>St aD ((nb h).add 4) (vi S) fun z=>∃T:Bool,cell z (nb h)=some (vb T)∧∃A:Sl,cell z ((nb h).add 1)=some (.slice A.a A.n A.c)∧∃U:Int,cell z ((nb h).add 2)=some (vu U)∧∃V:Int,cell z ((nb h).add 3)=some (vu V)∧∃W:Int,cell z ((nb h).add 4)=some (vi W)∧bq PG 23 #[vp v,vp d,.agg #[vb T,.slice A.a A.n A.c,vu U,vu V,vi W]] z fun r B=>∃M:Int,r=vi M∧∃X:Bool,cell B (nb h)=some (vb X)∧∃C:Sl,cell B ((nb h).add 1)=some (.slice C.a C.n C.c)∧∃Y:Int,cell B ((nb h).add 2)=some (vu Y)∧∃Z:Int,cell B ((nb h).add 3)=some (vu Z)∧∃aa:Int,cell B ((nb h).add 4)=some (vi aa)∧bq PG 23 #[vp i,vp e,.agg #[vb X,.slice C.a C.n C.c,vu Y,vu Z,vi aa]] B fun r x=>∃ab:Int,r=vi ab∧bX (M != ab) (R (vb false:Value) x) (bX (decide (M≥(1000:Int))) (bX (decide (M<(2000:Int))) (R (vb false:Value) x) ((3:Int)≠0∧bX ((Int.tmod f (3:Int))==(0:Int)) (∃J:Int,cell x ((nb h).add 2)=some (vu J)∧bq PG 21 #[vi (wrap .i64 J),vi 4000] x fun r aE=>∃K:Int,r=vi K∧bq PG 42 #[vp i,vi K] aE fun r ac=>∃N:Int,r=vi N∧∃b:Sl,cell ac ((nb h).add 1)=some (.slice b.a b.n b.c)∧bq PG 43 #[vp v,vp d,vp i,vp e,.slice b.a b.n b.c] ac fun r ad=>∃j:Bool,r=vb j∧bX (!j) (R (vb false:Value) ad) (bq PG 44 #[vp d] ad fun r aF=>∃k:Int,∃l:Int,∃o:Int,∃p:Int,r=.agg #[vi k,vi l,vi o,vi p]∧bq PG 44 #[vp e] aF fun r ae=>∃q:Int,∃s:Int,∃t:Int,∃u:Int,r=.agg #[vi q,vi s,vi t,vi u]∧bX (!((k==q)&&((l==s)&&((o==t)&&((p==u)&&(true)))))) (R (vb false:Value) ae) (∃m,m<n1∧J1 m w d v e i (wrap .i64 (f+(1:Int))) ae))) (bq PG 32 #[vp i] x fun r af=>r=vt #[]∧∃b:Sl,cell af ((nb h).add 1)=some (.slice b.a b.n b.c)∧bq PG 43 #[vp v,vp d,vp i,vp e,.slice b.a b.n b.c] af fun r ag=>∃j:Bool,r=vb j∧bX (!j) (R (vb false:Value) ag) (bq PG 44 #[vp d] ag fun r aG=>∃k:Int,∃l:Int,∃o:Int,∃p:Int,r=.agg #[vi k,vi l,vi o,vi p]∧bq PG 44 #[vp e] aG fun r ah=>∃q:Int,∃s:Int,∃t:Int,∃u:Int,r=.agg #[vi q,vi s,vi t,vi u]∧bX (!((k==q)&&((l==s)&&((o==t)&&((p==u)&&(true)))))) (R (vb false:Value) ah) (∃m,m<n1∧J1 m w d v e i (wrap .i64 (f+(1:Int))) ah))))) ((3:Int)≠0∧bX ((Int.tmod f (3:Int))==(0:Int)) (∃J:Int,cell x ((nb h).add 2)=some (vu J)∧bq PG 21 #[vi (wrap .i64 J),vi 4000] x fun r aH=>∃K:Int,r=vi K∧bq PG 42 #[vp i,vi K] aH fun r ai=>∃N:Int,r=vi N∧∃b:Sl,cell ai ((nb h).add 1)=some (.slice b.a b.n b.c)∧bq PG 43 #[vp v,vp d,vp i,vp e,.slice b.a b.n b.c] ai fun r aj=>∃j:Bool,r=vb j∧bX (!j) (R (vb false:Value) aj) (bq PG 44 #[vp d] aj fun r aI=>∃k:Int,∃l:Int,∃o:Int,∃p:Int,r=.agg #[vi k,vi l,vi o,vi p]∧bq PG 44 #[vp e] aI fun r ak=>∃q:Int,∃s:Int,∃t:Int,∃u:Int,r=.agg #[vi q,vi s,vi t,vi u]∧bX (!((k==q)&&((l==s)&&((o==t)&&((p==u)&&(true)))))) (R (vb false:Value) ak) (∃m,m<n1∧J1 m w d v e i (wrap .i64 (f+(1:Int))) ak))) (bq PG 32 #[vp i] x fun r al=>r=vt #[]∧∃b:Sl,cell al ((nb h).add 1)=some (.slice b.a b.n b.c)∧bq PG 43 #[vp v,vp d,vp i,vp e,.slice b.a b.n b.c] al fun r am=>∃j:Bool,r=vb j∧bX (!j) (R (vb false:Value) am) (bq PG 44 #[vp d] am fun r aJ=>∃k:Int,∃l:Int,∃o:Int,∃p:Int,r=.agg #[vi k,vi l,vi o,vi p]∧bq PG 44 #[vp e] aJ fun r an=>∃q:Int,∃s:Int,∃t:Int,∃u:Int,r=.agg #[vi q,vi s,vi t,vi u]∧bX (!((k==q)&&((l==s)&&((o==t)&&((p==u)&&(true)))))) (R (vb false:Value) an) (∃m,m<n1∧J1 m w d v e i (wrap .i64 (f+(1:Int))) an)))))) (∃ao:Int,cell h (w.add 1)=some (vi ao)∧bq PG 30 #[vp d,vu (wrap .u64 ao),vi 3] h fun r ap=>∃aq:Int,∃D:Sl,r=vt #[vu aq,.slice D.a D.n D.c]∧∃ar:Int,cell ap (w.add 1)=some (vi ar)∧bq PG 30 #[vp e,vu (wrap .u64 ar),vi 3] ap fun r au=>∃av:Int,∃E:Sl,r=vt #[vu av,.slice E.a E.n E.c]∧bX (aq==av) (bq PG 25 #[.slice D.a D.n D.c,.slice E.a E.n E.c] au fun r aw=>∃ax:Bool,r=vb ax∧bX ax (bq PG 26 #[vp d] aw fun r aK=>∃F:Sl,r=.slice F.a F.n F.c∧bq PG 26 #[vp e] aK fun r aL=>∃G:Sl,r=.slice G.a G.n G.c∧bq PG 25 #[.slice F.a F.n F.c,.slice G.a G.n G.c] aL fun r aM=>∃ay:Bool,r=vb ay∧R (vb ay:Value) aM) (R (vb false:Value) aw)) (R (vb false:Value) au))
theorem Fr {R:RP}{s1:Addr}{s3 s4 s5 s6:OA}{s7:Int}{h0:Hp}(J:Nat→Addr→OA→OA→OA→OA→Int→Hp→Prop)(n0:Nat)(hi:J n0 s1 s3 s4 s5 s6 s7 h0)(hr:∀n s1 s3 s4 s5 s6 s7 g h,J n s1 s3 s4 s5 s6 s7 h→ana  J n s1 s3 s4 s5 s6 s7 g h R):aqn R s1 s3 s4 s5 s6 s7 h0:=iz (l:=[(1,.a),(3,.p),(4,.p),(5,.p),(6,.p),(7,.i .i64)]) (J:=J) (n0:=n0) (s1,s3,s4,s5,s6,s7,()) hi (fun n s1 s3 s4 s5 s6 s7 g h=>ana  J n s1 s3 s4 s5 s6 s7 g h R) hr
def atS(s t:Int)(j k:Sl)(h:Hp)(R:RP):Prop:=gi (h.push (.cells #[vu s,vi t,.slice j.a j.n j.c,.slice k.a k.n k.c] 30)) fun u=>bq PG 19 #[] u fun r l=>∃m:Bool,r=vb m∧bX (!m) (R (vb false:Value) l) (∃o:Int,cell l (nb h)=some (vu o)∧bq PG 20 #[vi 1000000,vu o] l fun r p=>∃b:OA,∃e:OA,r=vt #[vp b,vp e]∧∃q:Int,cell p (nb h)=some (vu q)∧bq PG 20 #[vi 999000,vu q] p fun r f=>∃d:OA,∃g:OA,r=vt #[vp d,vp g]∧bX (Option.isNone b) (VD  (nb h) b e d g true f R) (bX (Option.isNone d) (VD  (nb h) b e d g true f R) (∃i:Sl,cell f ((nb h).add 2)=some (.slice i.a i.n i.c)∧VD  (nb h) b e d g (decide ((i.n:Int)>(300:Int))) f R)))
theorem apE {pF lf:Int}{an2 anx:Sl}{h:Hp}{R:RP}(hF:atS pF lf an2 anx h R):bq PG 10 #[.agg #[vu pF,vi lf,vl an2,vl anx]] h R:=iY (lv:=arE) Tryz.func10 hF
def yk  (g:OA) (o:Bool) (h:Hp) (R:RP):Prop:=bX o (R (vb false:Value) h) (gi (h.push (.cells #[.int .u8 97] 5)) fun p=>bE (some (nb h)) fun q=>gi (zy p q.block) fun s=>bq PG 28 #[vp g,.slice (some (nb h)) 1 1] s fun r t=>∃u:Int,∃i:Int,∃j:Int,∃k:Int,r=vt #[vu u,vu i,vu j,vi k]∧bq PG 26 #[vp g] t fun r e=>∃b:Sl,r=.slice b.a b.n b.c∧bX (k==(0:Int)) (bX (i==(1:Int)) (bX (j==(2:Int)) (bq PG 24 #[vp g] e fun r f=>∃l:Int,r=vi l∧bX (l==(1:Int)) (bX ((b.n:Int)==(1:Int)) ((0≤(0:Int)∧(0:Int)<(b.n:Int))∧bE b.a fun v=>∃d:Sl,cell f (v.add ((0:Int).toNat*1))=some (.slice d.a d.n d.c)∧bq PG 56 #[.slice d.a d.n d.c,.string ⟨#[97]⟩] f fun r w=>∃m:Bool,r=vb m∧R (vb m:Value) w) (R (vb false:Value) f)) (R (vb false:Value) f)) (R (vb false:Value) e)) (R (vb false:Value) e)) (R (vb false:Value) e))
def am7  (a:OA) (e:Bool) (h:Hp) (R:RP):Prop:=bX e (R (vb false:Value) h) (gi (h.push (.cells #[.int .u8 97] 5)) fun f=>bE (some (nb h)) fun g=>gi (zy f g.block) fun i=>bq PG 48 #[vp a,.slice (some (nb h)) 1 1,vu 0,vu 1,vu 2] i fun r b=>∃c:Bool,∃d:Int,r=vt #[vb c,vi d]∧bX (!c) (yk  a true b R) (yk  a (d != (0:Int)) b R))
def atQ  (h:Hp) (R:RP):Prop:=bq PG 20 #[vi 4000,vu 7] h fun r b=>∃a:OA,∃c:OA,r=vt #[vp a,vp c]∧bX (Option.isNone a) (am7  a true b R) (am7  a (Option.isNone c) b R)
theorem apD {h:Hp}{R:RP}(hF:atQ h R):bq PG 19 #[] h R:=iY (lv:=kw) Tryz.func19 hF
def am2  (e:Int) (a:OA) (f:Bool) (h:Hp) (R:RP):Prop:=bX f (R (vt #[vp none,vp none]:Value) h) (bq PG 58 #[vp a,vu e] h fun r b=>∃c:OA,∃d:Int,r=vt #[vp c,vi d]∧bX (d != (0:Int)) (R (vt #[vp none,vp none]:Value) b) (R (vt #[vp c,vp a]:Value) b))
def atM(e b:Int)(h:Hp)(R:RP):Prop:=bq PG 57 #[vi e] h fun r c=>∃a:OA,∃d:Int,r=vt #[vp a,vi d]∧bX (d != (0:Int)) (am2  b a true c R) (am2  b a (Option.isNone a) c R)
theorem apC {a0 a1:Int}{h:Hp}{R:RP}(hF:atM a0 a1 h R):bq PG 20 #[vi a0,vu a1] h R:=iY (lv:=kw) Tryz.func20 hF
def amz(m:Nat):LN:=if m=2 then [0,1,5]else []
def amW(J1:Nat→Sl→Sl→Int→Hp→Prop)(n1:Nat)(e f:Sl)(b:Int)(g:Nat→Value)(h:Hp)(R:RP):Prop:=bX (decide (b<(e.n:Int))) ((0≤b∧b<(e.n:Int))∧bE e.a fun k=>∃d:Sl,cell h (k.add (b.toNat*1))=some (.slice d.a d.n d.c)∧bq PG 51 #[.slice d.a d.n d.c,.slice f.a f.n f.c] h fun r i=>∃j:Bool,r=vb j∧bX j (R (vi b:Value) i) (∃m,m<n1∧J1 m e f (wrap .i64 (b+(1:Int))) i)) (R ((vi (-1):Value)) h)
abbrev atK(R:RP)(s0a:OA)(s0n s0c:Nat)(s1a:OA)(Y7 Y9:Nat)(a:Int)(b:Hp):Prop:=dO (kJ PG fN amz (sub [1,0,1,0,0] (bd Tryz.f22))) (dW PG fN amz [1,0,1,0] (bd Tryz.f22) [] (eJ PG Tryz.f22 [] R)) [(0,.slice s0a s0n s0c),(1,.slice s1a Y7 Y9),(5,vi a)] 19 b
theorem D6 {R:RP}{s0 s1:Sl}{s5:Int}{h0:Hp}(J:Nat→Sl→Sl→Int→Hp→Prop)(n0:Nat)(hi:J n0 s0 s1 s5 h0)(hr:∀n s0 s1 s5 g h,J n s0 s1 s5 h→amW  J n s0 s1 s5 g h R):atK R s0.a s0.n s0.c s1.a s1.n s1.c s5 h0:=iz (l:=[(0,.l),(1,.l),(5,.i .i64)]) (J:=J) (n0:=n0) (s0,s1,s5,()) hi (fun n s0 s1 s5 g h=>amW  J n s0 s1 s5 g h R) hr
def atJ(b d:Sl)(h:Hp)(R:RP):Prop:=dO (kJ PG fN amz (sub [1,0,1,0,0] (bd Tryz.f22))) (dW PG fN amz [1,0,1,0] (bd Tryz.f22) [] (eJ PG Tryz.f22 [] R)) [(0,.slice b.a b.n b.c),(1,.slice d.a d.n d.c),(5,vi 0)] 19 h
theorem apB {a0 a1:Sl}{h:Hp}{R:RP}(hF:atJ a0 a1 h R):bq PG 22 #[vl a0,vl a1] h R:=iY (lv:=amz) Tryz.func22 hF
def atI(t i:OA)(u:Bool)(g:Sl)(v w x:Int)(h:Hp)(R:RP):Prop:=gi (h.push (.cells #[vb u,.slice g.a g.n g.c,vu v,vu w,vi x] 41)) fun j=>∃e:Sl,cell j ((nb h).add 1)=some (.slice e.a e.n e.c)∧bq PG 59 #[.slice e.a e.n e.c] j fun r d=>∃b:Sl,r=.slice b.a b.n b.c∧∃k:Bool,cell d (nb h)=some (vb k)∧bX k (bq PG 49 #[vp i,.slice b.a b.n b.c] d fun r y=>∃l:Int,r=vi l∧R (vi l:Value) y) (∃m:Bool,cell d (nb h)=some (vb m)∧∃f:Sl,cell d ((nb h).add 1)=some (.slice f.a f.n f.c)∧∃o:Int,cell d ((nb h).add 2)=some (vu o)∧∃p:Int,cell d ((nb h).add 3)=some (vu p)∧∃q:Int,cell d ((nb h).add 4)=some (vi q)∧bq PG 60 #[vp t,vp i,.slice b.a b.n b.c,.agg #[vb m,.slice f.a f.n f.c,vu o,vu p,vi q]] d fun r z=>∃s:Int,r=vi s∧R (vi s:Value) z)
theorem apA {a0 a1:OA}{AF:Bool}{AE:Sl}{AD AC AB:Int}{h:Hp}{R:RP}(hF:atI a0 a1 AF AE AD AC AB h R):bq PG 23 #[vp a0,vp a1,.agg #[vb AF,vl AE,vu AD,vu AC,vi AB]] h R:=iY (lv:=kw) Tryz.func23 hF
def T0  (a:Bool) (b:Int) (h:Hp) (R:RP):Prop:=bX a (bX (b==(3000:Int)) (R (vb true:Value) h) (bX (!a) (R ((vb (b==(2000:Int)):Value)) h) (R (vb false:Value) h))) (bX (!a) (R ((vb (b==(2000:Int)):Value)) h) (R (vb false:Value) h))
def atH(e L M:OA)(N:Bool)(B:Sl)(O P Q:Int)(h:Hp)(R:RP):Prop:=gi (h.push (.cells #[vb N,.slice B.a B.n B.c,vu O,vu P,vi Q] 41)) fun d=>bE e fun S=>∃j:Sl,cell d S=some (.slice j.a j.n j.c)∧∃k:Sl,cell d ((nb h).add 1)=some (.slice k.a k.n k.c)∧∃f:Int,bq PG 22 #[.slice j.a j.n j.c,.slice k.a k.n k.c] d (fun v h'=>v=(vi f)∧h'=d)∧∃E:Bool,cell d (nb h)=some (vb E)∧∃l:Sl,cell d ((nb h).add 1)=some (.slice l.a l.n l.c)∧∃F:Int,cell d ((nb h).add 2)=some (vu F)∧∃G:Int,cell d ((nb h).add 3)=some (vu G)∧∃H:Int,cell d ((nb h).add 4)=some (vi H)∧bq PG 23 #[vp L,vp M,.agg #[vb E,.slice l.a l.n l.c,vu F,vu G,vi H]] d fun r b=>∃g:Int,r=vi g∧∃I:Bool,cell b (nb h)=some (vb I)∧bX I (bE e fun T=>∃m:Sl,cell b T=some (.slice m.a m.n m.c)∧∃o:Sl,cell b ((nb h).add 1)=some (.slice o.a o.n o.c)∧bq PG 35 #[.slice m.a m.n m.c,.slice o.a o.n o.c] b fun r U=>∃p:Sl,r=.slice p.a p.n p.c∧bE e fun V=>St U V (.slice p.a p.n p.c) fun C=>bE e fun W=>∃q:Sl,cell C (W.add 1)=some (.slice q.a q.n q.c)∧∃s:Sl,cell C ((nb h).add 1)=some (.slice s.a s.n s.c)∧bq PG 35 #[.slice q.a q.n q.c,.slice s.a s.n s.c] C fun r X=>∃t:Sl,r=.slice t.a t.n t.c∧bE e fun Y=>St X (Y.add 1) (.slice t.a t.n t.c) fun D=>bE e fun Z=>∃u:Sl,cell D (Z.add 2)=some (.slice u.a u.n u.c)∧∃w:Sl,cell D ((nb h).add 1)=some (.slice w.a w.n w.c)∧bq PG 35 #[.slice u.a u.n u.c,.slice w.a w.n w.c] D fun r aa=>∃x:Sl,r=.slice x.a x.n x.c∧bE e fun ab=>St aa (ab.add 2) (.slice x.a x.n x.c) fun z=>bX (decide (f≥(0:Int))) (bX (g==(0:Int)) (R (vb true:Value) z) (bX (!(decide (f≥(0:Int)))) (R ((vb (g==(63:Int)):Value)) z) (R (vb false:Value) z))) (bX (!(decide (f≥(0:Int)))) (R ((vb (g==(63:Int)):Value)) z) (R (vb false:Value) z))) (∃A:Sl,cell b ((nb h).add 1)=some (.slice A.a A.n A.c)∧bX (decide ((A.n:Int)>(4096:Int))) (R ((vb (g==(3062:Int)):Value)) b) (bX (!(decide (f≥(0:Int)))) (bE e fun J=>∃i:Sl,cell b J=some (.slice i.a i.n i.c)∧∃y:Sl,cell b ((nb h).add 1)=some (.slice y.a y.n y.c)∧gi (b.push (.cells #[.slice y.a y.n y.c] 39)) fun K=>CS K J i∧im 39 1 24 #[.slice none 0 0] i.a i.n i.c (some (nb b)) 1 K fun ac ad ae af=>bE e fun ag=>St af ag (.slice ac ad ae) fun ah=>T0  (decide (f≥(0:Int))) g ah R) (T0  (decide (f≥(0:Int))) g b R)))
theorem apz {a0 a1 a2:OA}{alK:Bool}{alH:Sl}{PB Pl alD:Int}{h:Hp}{R:RP}(hF:atH a0 a1 a2 alK alH PB Pl alD h R):bq PG 29 #[vp a0,vp a1,vp a2,.agg #[vb alK,vl alH,vu PB,vu Pl,vi alD]] h R:=iY (lv:=kw) Tryz.func29 hF
def apL(m:Nat):LN:=if m=2 then [0,1,5]else []
def ap6(J1:Nat→OA→Sl→Int→Hp→Prop)(n1:Nat)(f:OA)(g:Sl)(e:Int)(k:Bool)(h:Hp)(R:RP):Prop:=bX k (R (vb false:Value) h) (bE f fun i=>∃b:Sl,cell h (i.add 2)=some (.slice b.a b.n b.c)∧(0≤e∧e<(g.n:Int))∧bE g.a fun l=>∃d:Sl,cell h (l.add (e.toNat*1))=some (.slice d.a d.n d.c)∧gi (h.push (.cells #[.slice d.a d.n d.c] 39)) fun j=>CS j (i.add 2) b∧im 39 1 24 #[.slice none 0 0] b.a b.n b.c (some (nb h)) 1 j fun o p q r=>bE f fun s=>St r (s.add 2) (.slice o p q) fun t=>∃m,m<n1∧J1 m f g (wrap .i64 (e+(1:Int))) t)
def ap5(J1:Nat→OA→Sl→Int→Hp→Prop)(n1:Nat)(k:OA)(d:Sl)(b:Int)(g:Nat→Value)(h:Hp)(R:RP):Prop:=bX (decide (b<(d.n:Int))) (bE k fun o=>∃e:Sl,cell h o=some (.slice e.a e.n e.c)∧(0≤b∧b<(d.n:Int))∧bE d.a fun p=>∃f:Sl,cell h (p.add (b.toNat*1))=some (.slice f.a f.n f.c)∧∃l:Int,bq PG 22 #[.slice e.a e.n e.c,.slice f.a f.n f.c] h (fun v h'=>v=(vi l)∧h'=h)∧bX (decide (l<(0:Int))) (ap6 J1 n1 k d b true h R) (bE k fun q=>∃i:Sl,cell h (q.add 2)=some (.slice i.a i.n i.c)∧(0≤b∧b<(d.n:Int))∧bE d.a fun r=>∃j:Sl,cell h (r.add (b.toNat*1))=some (.slice j.a j.n j.c)∧∃m:Int,bq PG 22 #[.slice i.a i.n i.c,.slice j.a j.n j.c] h (fun v h'=>v=(vi m)∧h'=h)∧ap6 J1 n1 k d b (decide (m≥(0:Int))) h R)) (R (vb true:Value) h)
abbrev avn(R:RP)(a s1a:OA)(Y7 Y9:Nat)(b:Int)(c:Hp):Prop:=dO (kJ PG fN apL (sub [1,0,1,0,0] (bd Tryz.f31))) (dW PG fN apL [1,0,1,0] (bd Tryz.f31) [] (eJ PG Tryz.f31 [] R)) [(0,vp a),(1,.slice s1a Y7 Y9),(5,vi b)] 47 c
theorem ao4 {R:RP}{s0:OA}{s1:Sl}{s5:Int}{h0:Hp}(J:Nat→OA→Sl→Int→Hp→Prop)(n0:Nat)(hi:J n0 s0 s1 s5 h0)(hr:∀n s0 s1 s5 g h,J n s0 s1 s5 h→ap5  J n s0 s1 s5 g h R):avn R s0 s1.a s1.n s1.c s5 h0:=iz (l:=[(0,.p),(1,.l),(5,.i .i64)]) (J:=J) (n0:=n0) (s0,s1,s5,()) hi (fun n s0 s1 s5 g h=>ap5  J n s0 s1 s5 g h R) hr
def avm(d:OA)(b:Sl)(h:Hp)(R:RP):Prop:=dO (kJ PG fN apL (sub [1,0,1,0,0] (bd Tryz.f31))) (dW PG fN apL [1,0,1,0] (bd Tryz.f31) [] (eJ PG Tryz.f31 [] R)) [(0,vp d),(1,.slice b.a b.n b.c),(5,vi 0)] 47 h
theorem are {a0:OA}{a1:Sl}{h:Hp}{R:RP}(hF:avm a0 a1 h R):bq PG 31 #[vp a0,vl a1] h R:=iY (lv:=apL) Tryz.func31 hF
def ams(m:Nat):LN:=if m=2 then [0,1,5]else []
def yh(J1:Nat→Int→Sl→Int→Hp→Prop)(n1:Nat)(a:Int)(b:Sl)(c:Int)(d:Bool)(h:Hp)(R:RP):Prop:=bX d (R (vb false:Value) h) (∃m,m<n1∧J1 m a b (wrap .i64 (c+(1:Int))) h)
def amT(J1:Nat→Int→Sl→Int→Hp→Prop)(n1:Nat)(l:Int)(d:Sl)(b:Int)(g:Nat→Value)(h:Hp)(R:RP):Prop:=bX (decide (b<(d.n:Int))) ((0≤(wrap .i64 (b-(1:Int)))∧(wrap .i64 (b-(1:Int)))<(d.n:Int))∧bE d.a fun t=>∃i:Sl,cell h (t.add ((wrap .i64 (b-(1:Int))).toNat*1))=some (.slice i.a i.n i.c)∧(0≤b∧b<(d.n:Int))∧bE d.a fun p=>∃e:Sl,cell h (p.add (b.toNat*1))=some (.slice e.a e.n e.c)∧bq PG 68 #[vu l,.slice i.a i.n i.c] h fun r q=>∃m:Int,r=vu m∧CS q (p.add (b.toNat*1)) e∧bq PG 68 #[vu l,.slice e.a e.n e.c] q fun r f=>∃o:Int,r=vu o∧bX (decide (m>o)) (yh J1 n1 l d b true f R) (bX (m==o) ((0≤(wrap .i64 (b-(1:Int)))∧(wrap .i64 (b-(1:Int)))<(d.n:Int))∧bE d.a fun u=>∃j:Sl,cell f (u.add ((wrap .i64 (b-(1:Int))).toNat*1))=some (.slice j.a j.n j.c)∧(0≤b∧b<(d.n:Int))∧bE d.a fun w=>∃k:Sl,cell f (w.add (b.toNat*1))=some (.slice k.a k.n k.c)∧∃s:Int,bq PG 62 #[.slice j.a j.n j.c,.slice k.a k.n k.c] f (fun v h'=>v=(vi s)∧h'=f)∧yh J1 n1 l d b (decide (s≥(0:Int))) f R) (yh J1 n1 l d b false f R))) (R (vb true:Value) h)
abbrev atG(R:RP)(a:Int)(s1a:OA)(Y7 Y9:Nat)(b:Int)(c:Hp):Prop:=dO (kJ PG fN ams (sub [1,0,1,0,0] (bd Tryz.f34))) (dW PG fN ams [1,0,1,0] (bd Tryz.f34) [] (eJ PG Tryz.f34 [] R)) [(0,vu a),(1,.slice s1a Y7 Y9),(5,vi b)] 48 c
theorem D5 {R:RP}{s0:Int}{s1:Sl}{s5:Int}{h0:Hp}(J:Nat→Int→Sl→Int→Hp→Prop)(n0:Nat)(hi:J n0 s0 s1 s5 h0)(hr:∀n s0 s1 s5 g h,J n s0 s1 s5 h→amT  J n s0 s1 s5 g h R):atG R s0 s1.a s1.n s1.c s5 h0:=iz (l:=[(0,.i .u64),(1,.l),(5,.i .i64)]) (J:=J) (n0:=n0) (s0,s1,s5,()) hi (fun n s0 s1 s5 g h=>amT  J n s0 s1 s5 g h R) hr
def atD(d:Int)(b:Sl)(h:Hp)(R:RP):Prop:=dO (kJ PG fN ams (sub [1,0,1,0,0] (bd Tryz.f34))) (dW PG fN ams [1,0,1,0] (bd Tryz.f34) [] (eJ PG Tryz.f34 [] R)) [(0,vu d),(1,.slice b.a b.n b.c),(5,vi 1)] 48 h
theorem apy {a0:Int}{a1:Sl}{h:Hp}{R:RP}(hF:atD a0 a1 h R):bq PG 34 #[vu a0,vl a1] h R:=iY (lv:=ams) Tryz.func34 hF
def amq(m:Nat):LN:=if m=3 then [0,1,5,6]else []
def TV(J1:Nat→Sl→Sl→Sl→Int→Hp→Prop)(n1:Nat)(a b c:Sl)(d:Int)(h:Hp)(R:RP):Prop:=∃m,m<n1∧J1 m a b c (wrap .i64 (d+(1:Int))) h
def amS(J1:Nat→Sl→Sl→Sl→Int→Hp→Prop)(n1:Nat)(d j e:Sl)(b:Int)(g:Nat→Value)(h:Hp)(R:RP):Prop:=bX (decide (b<(d.n:Int))) ((0≤b∧b<(d.n:Int))∧bE d.a fun m=>∃f:Sl,cell h (m.add (b.toNat*1))=some (.slice f.a f.n f.c)∧bq PG 51 #[.slice f.a f.n f.c,.slice j.a j.n j.c] h fun r k=>∃l:Bool,r=vb l∧bX (!l) ((0≤b∧b<(d.n:Int))∧bE d.a fun o=>∃i:Sl,cell k (o.add (b.toNat*1))=some (.slice i.a i.n i.c)∧gi (k.push (.cells #[.slice i.a i.n i.c] 39)) fun p=>im 39 1 24 #[.slice none 0 0] e.a e.n e.c (some (nb k)) 1 p fun q s t u=>TV J1 n1 d j ⟨q,s,t⟩ b u R) (TV J1 n1 d j e b k R)) (R (.slice e.a e.n e.c:Value) h)
abbrev atB(R:RP)(s0a:OA)(s0n s0c:Nat)(s1a:OA)(Y7 Y9:Nat)(s5a:OA)(s5n s5c:Nat)(a:Int)(b:Hp):Prop:=dO (kJ PG fN amq (sub [1,1,0,1,0,0] (bd Tryz.f35))) (dW PG fN amq [1,1,0,1,0] (bd Tryz.f35) [] (eJ PG Tryz.f35 [] R)) [(0,.slice s0a s0n s0c),(1,.slice s1a Y7 Y9),(5,.slice s5a s5n s5c),(6,vi a)] 28 b
theorem D2 {R:RP}{s0 s1 s5:Sl}{s6:Int}{h0:Hp}(J:Nat→Sl→Sl→Sl→Int→Hp→Prop)(n0:Nat)(hi:J n0 s0 s1 s5 s6 h0)(hr:∀n s0 s1 s5 s6 g h,J n s0 s1 s5 s6 h→amS  J n s0 s1 s5 s6 g h R):atB R s0.a s0.n s0.c s1.a s1.n s1.c s5.a s5.n s5.c s6 h0:=iz (l:=[(0,.l),(1,.l),(5,.l),(6,.i .i64)]) (J:=J) (n0:=n0) (s0,s1,s5,s6,()) hi (fun n s0 s1 s5 s6 g h=>amS  J n s0 s1 s5 s6 g h R) hr
def atA(b d:Sl)(h:Hp)(R:RP):Prop:=dO (kJ PG fN amq (sub [1,1,0,1,0,0] (bd Tryz.f35))) (dW PG fN amq [1,1,0,1,0] (bd Tryz.f35) [] (eJ PG Tryz.f35 [] R)) [(0,.slice b.a b.n b.c),(1,.slice d.a d.n d.c),(5,.slice none 0 0),(6,vi 0)] 28 h
theorem apx {a0 a1:Sl}{h:Hp}{R:RP}(hF:atA a0 a1 h R):bq PG 35 #[vl a0,vl a1] h R:=iY (lv:=amq) Tryz.func35 hF
def atz(e:OA)(a:Int)(h:Hp)(R:RP):Prop:=bX (a==(0:Int)) (R (vu 0:Value) h) (bq PG 72 #[vp e,vu a,vi 1] h fun r b=>∃c:Int,∃d:Int,r=vt #[vu c,vi d]∧bX (d != (0:Int)) (R (vu 1:Value) b) (R (vu c:Value) b))
theorem apw {a0:OA}{a1:Int}{h:Hp}{R:RP}(hF:atz a0 a1 h R):bq PG 36 #[vp a0,vu a1] h R:=iY (lv:=kw) Tryz.func36 hF
def atu(q s t u:OA)(b:Sl)(h:Hp)(R:RP):Prop:=bq PG 28 #[vp s,.slice b.a b.n b.c] h fun r v=>∃e:Int,∃g:Int,∃i:Int,∃j:Int,r=vt #[vu e,vu g,vu i,vi j]∧bq PG 28 #[vp u,.slice b.a b.n b.c] v fun r d=>∃f:Int,∃k:Int,∃l:Int,∃m:Int,r=vt #[vu f,vu k,vu l,vi m]∧bX (g==k) (bX (i==l) (bX (j==m) (bX ((e==(0:Int))==(f==(0:Int))) (bq PG 36 #[vp q,vu e] d fun r w=>∃o:Int,r=vu o∧bq PG 36 #[vp t,vu f] w fun r x=>∃p:Int,r=vu p∧R ((vb (o==p):Value)) x) (R (vb false:Value) d)) (R (vb false:Value) d)) (R (vb false:Value) d)) (R (vb false:Value) d)
theorem apv {a0 a1 a2 a3:OA}{a4:Sl}{h:Hp}{R:RP}(hF:atu a0 a1 a2 a3 a4 h R):bq PG 43 #[vp a0,vp a1,vp a2,vp a3,vl a4] h R:=iY (lv:=kw) Tryz.func43 hF
def TM  (k:OA) (b:Sl) (e:Addr) (l:Int) (h:Hp) (R:RP):Prop:=∃f:Int,cell h (e.add 2)=some (vu f)∧∃g:Int,cell h (e.add 3)=some (vu g)∧bq PG 48 #[vp k,.slice b.a b.n b.c,vu l,vu f,vu g] h fun r i=>∃j:Bool,∃d:Int,r=vt #[vb j,vi d]∧bX j (R ((vi (wrap .i64 ((2000:Int)+d)):Value)) i) (R ((vi (wrap .i64 ((3000:Int)+d)):Value)) i)
def atr(j k:OA)(l:Sl)(q:Bool)(b:Sl)(s t u:Int)(h:Hp)(R:RP):Prop:=gi (h.push (.cells #[vb q,.slice b.a b.n b.c,vu s,vu t,vi u] 41)) fun d=>∃m:Int,cell d ((nb h).add 4)=some (vi m)∧bX ((ot .i64 m (1:Int))==(0:Int)) (bq PG 96 #[vp j,vi 200,vi 0,vi 3] d fun r e=>∃f:Int,∃g:Int,r=vt #[vu f,vi g]∧bX (g != (0:Int)) (R ((vi (wrap .i64 ((1000:Int)+g)):Value)) e) (∃o:Int,cell e ((nb h).add 2)=some (vu o)∧bq PG 92 #[vp j,vu f,vi 1,vu o] e fun r p=>∃i:Int,r=vi i∧bX (i != (0:Int)) (R ((vi (wrap .i64 ((1000:Int)+i)):Value)) p) (TM  k l (nb h) f p R))) (TM  k l (nb h) (0:Int) d R)
theorem apt {a0 a1:OA}{a2:Sl}{alK:Bool}{alH:Sl}{PB Pl alD:Int}{h:Hp}{R:RP}(hF:atr a0 a1 a2 alK alH PB Pl alD h R):bq PG 60 #[vp a0,vp a1,vl a2,.agg #[vb alK,vl alH,vu PB,vu Pl,vi alD]] h R:=iY (lv:=kw) Tryz.func60 hF
def evn(n:Int):Bool:=ot .i64 n 1==0
namespace AT
def lay(A:AT)(kb:LN)(n:Int)(a b:Nat):AT:=if kb.length≤4096 then A.put kb (evn n,a,b)else A
def vw(A:AT)(kb:LN):Int:=if kb.length≤4096 then(if A.cX kb then 3000 else 2000)else 3062
end AT
structure aP where
 gone:Bool
 key:Sl
 a:Nat
 b:Nat
 n:Int
 kb:LN
def aP.cells(o:aP):LV:=[vb o.gone,.slice o.key.a o.key.n o.key.c,uv o.a,uv o.b,vi o.n]
structure aP.Ok (h:Hp) (o:aP):Prop where
 kk:Kf h o.key o.kb
 a:o.a<18446744073709551616
 b:o.b<18446744073709551616
def AT.step(A:AT)(o:aP):AT:=if o.gone then A.u5 o.kb else A.lay o.kb o.n o.a o.b
def AT.ans(A:AT)(o:aP):Int:=if o.gone then(if A.cX o.kb then 0 else 63)else A.vw o.kb
theorem AT.apa(A:AT)(k:LN)(r:a8):(A.put k r).m.length≤A.m.length+1:=by
 have:(A.rest k).length≤A.m.length:=dT _ _
 unfold AT.put
 split<;>(show ((k,r)::A.rest k).length≤_;rw [dF];omega)
theorem AT.apG(A:AT)(k:LN):(A.u5 k).m.length≤A.m.length:=by
 have:(A.rest k).length≤A.m.length:=dT _ _
 unfold AT.u5
 split<;>exact this
theorem AT.u7(A:AT)(o:aP):(A.step o).m.length≤A.m.length+1:=by
 have h1:=A.apa o.kb (evn o.n,o.a,o.b)
 have h2:=A.apG o.kb
 unfold AT.step AT.lay
 split
 ·omega
 ·split
  ·exact h1
  ·omega
theorem AT.as5(A:AT)(o:aP):¬(1000≤A.ans o∧A.ans o<2000):=by
 unfold AT.ans AT.vw
 split
 ·split<;>omega
 ·split
  ·split<;>omega
  ·omega
theorem AT.arx(A:AT)(k:LN)(r:a8):(A.put k r).sd=A.sd:=by unfold AT.put;split<;>rfl
theorem AT.asZ(A:AT)(k:LN):(A.u5 k).sd=A.sd:=by unfold AT.u5;split<;>rfl
theorem AT.aoO(A:AT)(o:aP):(A.step o).sd=A.sd:=by
 unfold AT.step AT.lay
 split
 ·exact A.asZ _
 ·split
  ·exact A.arx _ _
  ·rfl
section
variable {h h' h2 g:Hp} {q q':HQ} {s s':RS} {nd gm lT:List di} {bC:List (Option Nat)} {tb hn v w1 w2 M:Nat} {T T':TD} {A:AT} {k key kb:LN} {R:RP} {a c ks:Sl} {n:Int} {o:aP}
theorem Zs.cI(e:Zs h q a key)(x:Gs h q s nd)(k:bY N h h'):Zs h' q a key:=e.ex (Ex.pm k fun b hb=>x.st.fr hb)
theorem aP.Ok.cI(x:aP.Ok h o)(k:bY N h h'):aP.Ok h' o:=⟨x.kk.cI k,x.a,x.b⟩
def aX(h0:Hp)(q:HQ):Prop:=∀b,q.bR b≠.out→h0.size≤b
theorem aX.Tw(f:aX g q){b:Nat}(hb:b<g.size):q.bR b=.out:=iq fun hn=>by have:=f b hn;omega
theorem aX.ex(f:aX g q)(hs:g.size≤h.size)(e:Ex h q h' q'):aX g q':=fun b hb=>iq fun fE=>hb (e.out (by omega) (f.Tw (by omega)))
theorem aX.gK(f:aX g q)(k:bY N g h)(e:Ex h q h' q'):bY N g h' :=
 ⟨bP k.1 e.2.1,fun i hi _=>(e.2.2 i (bZ hi k.1) (f.Tw hi)).2.trans (k.2 i hi _root_.id)⟩
theorem aX.arF(f:aX h q)(k:g.size≤h.size):aX g q:=fun b hb=>bP k (f b hb)
theorem uB.row(a:uB h q s nd T h' q' s' gm T'){b:Nat}{cs:LV}(r:eM h b cs)(ho:q.bR b=.out):eM h' b cs:=bF a.ex.gK r fun hn=>hn ho
theorem atX(x:aN M h q s nd tb hn T A)(sr:Zs h q c kb)(hw1:w1<18446744073709551616)(hw2:w2<18446744073709551616)(hA:A.m.length<M){g0:Bool}
  (hR:∀h' q' s' gm T',uB h q s nd T h' q' s' gm T'→aN M h' q' s' gm tb hn T' (A.lay kb n w1 w2)→R (vi (A.vw kb)) h') :
  bq PG 60 #[vp (sa q.hb),vp (sa tb),.slice c.a c.n c.c,.agg #[vb g0,.slice ks.a ks.n ks.c,uv w1,uv w2,vi n]] h R:=by
 refine apt (PB:=(w1:Int)) (Pl:=(w2:Int)) ?_
 unfold atr
 refine dh fun h1 e1=>?_
 have k1:bY N h h1:=e1▸cF _ _ _
 have r1:eM h1 h.size [vb g0,.slice ks.a ks.n ks.c,uv w1,uv w2,vi n]:=e1▸du h #[vb g0,.slice ks.a ks.n ks.c,uv w1,uv w2,vi n] 41
 clear e1
 have ob:q.bR h.size=.out:=x.p.g.st.fr (bH _)
 have x1:=x.cI k1
 have sr1:=sr.cI x.p.g k1
 have a0:=uB.ofN x.p k1
 rw [show nb h=ad h.size from rfl]
 have tail:∀h2 q2 s2 lT v,uB h q s nd T h2 q2 s2 lT T→aN M h2 q2 s2 lT tb hn T A→eM h2 h.size [vb g0,.slice ks.a ks.n ks.c,uv w1,uv w2,vi n]→Zs h2 q2 c kb→decide (v≠0)=evn n→(v=0∨(s2.da v∧lT[v]?=some (aR w1))) →
   TM (sa tb) c (ad h.size) (s2.fk v:Int) h2 R:=fun h2 q2 s2 lT v a2 x2 r2 TX he hv=>by
  unfold TM
  refine⟨_,ia r2 rfl,_,ia r2 rfl,?_⟩
  by_cases hk:kb.length≤4096
  ·refine as8 x2 TX hk hv hw1 hw2 hA fun h3 q3 s3 SS T3 a3 x3=>⟨_,_,rfl,?_⟩
   have hR:=hR h3 q3 s3 SS T3 (a2.trans a3)
   unfold AT.lay AT.vw at hR
   rw [if_pos hk,if_pos hk,←he]at hR
   have hR:=hR x3
   cases hh:A.cX kb with
   |true=>rw [hh]at hR;exact cj rfl hR
   |false=>rw [hh]at hR;exact cr rfl hR
  ·refine Si x2.p.l x2.p.pos TX.n (by omega) ⟨_,_,rfl,cj rfl ?_⟩
   have hR:=hR h2 q2 s2 lT T a2
   unfold AT.lay AT.vw at hR
   rw [if_neg hk,if_neg hk]at hR
   exact hR x2
 refine⟨n,ia r1 rfl,?_⟩
 have fld:evn n=(ot .i64 n 1==0):=rfl
 cases he:evn n with
 |false =>
  refine cj (by rw [←fld];exact he) ?_
  have:=tail h1 q s nd 0 a0 x1 r1 sr1 (by rw [he];rfl) (.inl rfl)
  rw [RS.iQ]at this
  exact this
 |true =>
  have hs:=x.y
  refine cr (by rw [←fld];exact he) (A7 x1.p.g (k:=200) (r:=0) (w:=3) ⟨⟨by omega,by omega⟩,⟨by omega,by omega⟩,by omega,by omega⟩ rfl rfl rfl (fun h2 q2 s2 g2 er el ex hr=>?_) fun h2 q2 s2 g2 er el hh ex hr=>⟨_,_,rfl,cj rfl ?_⟩)
  ·exfalso
   have s1:=x.s1;have s2:=x.s2;have lm:=x.iN;have ln:=x.y.len
   refine x1.o.L0 x1.p.c (iN:=s.cM) (z:=4) (by rw [x.y.sh];omega) fun dN lv r=>hr ((x1.p.g.room lv 0 3).2 r)
  ·have r2:eM h2 h.size [vb g0,.slice ks.a ks.n ks.c,uv w1,uv w2,vi n]:=bF ex.gK r1 fun hn=>hn ob
   have IW:q2.bR h.size=.out:=ex.out (eE r1) ob
   refine⟨_,ia r2 rfl,?_⟩
   rw [←ex.1]
   have at0:(nd++[(⟨200,List.replicate 0 0,List.replicate 3 0⟩:di)])[nd.length]?=some ⟨200,[],[0,0,0]⟩:=by rw [bN (bH _),dD];rfl
   refine Vs g2 at0 hh (k:=1) hw1 (by simp) rfl fun h3 q3 s3 g3 al3 er3 ex3=>⟨_,rfl,cj rfl ?_⟩
   have e3:(nd++[(⟨200,List.replicate 0 0,List.replicate 3 0⟩:di)]).set nd.length ⟨200,[],([0,0,0]:LN).set 1 w1⟩=nd++[aR w1]:=by
    rw [gp _ _ (bH _),dD];rfl
   have e3':(nd++[(⟨200,List.replicate 0 0,List.replicate 3 0⟩:di)]).set nd.length ⟨(⟨200,[],[0,0,0]⟩:di).kind,(⟨200,[],[0,0,0]⟩:di).cY,(⟨200,[],[0,0,0]⟩:di).cN.set 1 w1⟩=nd++[aR w1]:=e3
   rw [e3']at g3
   have ltA:∀i∈T.dN,i<nd.length:=fun i hi=>x1.p.g.lt (x1.p.da hi)
   have n3:qB nd T (nd++[aR w1]) T:=⟨x.p.c.eG fun i hi=>bL (ltA i hi),rfl,rfl,by simp,fun i hi _=>bL hi,fun i hi=>.inl hi⟩
   have a3:uB h1 q s nd T h3 q3 s3 (nd++[aR w1]) T:=⟨g3,n3,by rw [er3,er];exact wQ.refl _,by rw [er3,er];omega,al3.iN.trans el,ex.trans ex3⟩
   have x3:aN M h3 q3 s3 (nd++[aR w1]) tb hn T A:=x1.HS a3 (aZ (fT _)) x.y x.s1 x.s2
   have npq:=x.p.g.pos
   have:=tail h3 q3 s3 _ nd.length (a0.trans a3) x3 (bF ex3.gK r2 fun hn=>hn IW) ((sr1.ex ex).ex ex3) (by rw [he];exact decide_eq_true (by omega)) (.inr ⟨(al3.da _).2 hh,by rw [bN (bH _),dD];rfl⟩)
   rw [al3.fk]at this
   exact this
theorem al0(x:aN M h q s nd tb hn T A)(ok:o.Ok h)(ho:∀p,o.key.a=some p→o.kb≠[]→q.bR p.block=.out)(hA:A.m.length<M)
  (hR:∀h' q' s' gm T',uB h q s nd T h' q' s' gm T'→aN M h' q' s' gm tb hn T' (A.step o)→R (vi (A.ans o)) h') :
  bq PG 23 #[vp (sa q.hb),vp (sa tb),.agg o.cells.toArray] h R:=by
 refine apA (AF:=o.gone) (AE:=o.key) (AD:=(o.a:Int)) (AC:=(o.b:Int)) (AB:=o.n) ?_
 unfold atI
 refine dh fun h1 e1=>?_
 have k1:bY N h h1:=e1▸cF _ _ _
 have r1:eM h1 h.size o.cells:=by rw [e1];exact du h #[vb o.gone,.slice o.key.a o.key.n o.key.c,uv o.a,uv o.b,vi o.n] 41
 clear e1
 have ob:q.bR h.size=.out:=x.p.g.st.fr (bH _)
 have kk:=ok.kk.cI k1
 rw [show nb h=ad h.size from rfl]
 refine⟨o.key,ia r1 rfl,?_⟩
 refine Qf kk.nil kk.rd kk.n (by have:=kk.len;omega) fun c g Q9 hcr GZ k2=>⟨c,rfl,?_⟩
 have k12:=k1.trans k2
 have r2:=bF k2 r1 _root_.id
 have x2:=x.cI k12
 have sr:Zs h1 q c o.kb→True:=fun _=>trivial
 have TX:Zs g q c o.kb:=⟨hcr,Q9,kk.b8,fun p hp hn=>⟨x.p.g.st.fr (bP k1.1 (GZ p hp).1),(GZ p hp).2⟩⟩
 have a0:=uB.ofN x.p k12
 refine⟨_,(bS r2 0).trans rfl,?_⟩
 have hs:A.step o=if o.gone then A.u5 o.kb else A.lay o.kb o.n o.a o.b:=rfl
 have ha:A.ans o=if o.gone then(if A.cX o.kb then 0 else 63)else A.vw o.kb:=rfl
 cases hg:o.gone with
 |true =>
  rw [hg,if_pos rfl]at hs ha
  refine cr rfl (atY x2 TX kk.len (by omega) fun h3 q3 s3 SS T3 a3 x3=>⟨_,rfl,?_⟩)
  rw [←hs]at x3
  rw [←ha]
  exact hR h3 q3 s3 SS T3 (a0.trans a3) x3
 |false =>
  rw [hg,if_neg (by simp)]at hs ha
  refine cj rfl ⟨_,(bS r2 0).trans rfl,o.key,ia r2 rfl,_,ia r2 rfl,_,ia r2 rfl,_,ia r2 rfl,?_⟩
  refine atX (ks:=o.key) (g0:=o.gone) x2 TX ok.a ok.b hA fun h3 q3 s3 SS T3 a3 x3=>⟨_,rfl,?_⟩
  rw [←hs]at x3
  rw [←ha]
  exact hR h3 q3 s3 SS T3 (a0.trans a3) x3
def AT.new(sd:Nat):AT:=⟨sd,(4,0,0),[]⟩
theorem avw (tz:eM h BF (Nt.map fun n=>.int .u8 (n:Nat))) {iN:Nat} (hl:iN≤1048576) (hM:730*M+3000≤iN) {sd:Nat} (t6:sd<18446744073709551616)
  (hR:∀h' q' s' gm tb T',aN M h' q' s' gm tb 1 T' (AT.new sd)→bY N h h'→aX h q'→h.size≤tb→tb<h'.size→s'.bC.length≤1→R (vt #[vp (sa tb),vp (sa q'.hb)]) h') :
  bq PG 20 #[vi (iN:Nat),uv sd] h R:=by
 refine apC (a1:=(sd:Int)) ?_
 unfold atM
 refine phn (fun hb=>absurd ⟨by omega,by omega⟩ hb) fun h1 q1 _ g1 k1 fr=>⟨_,_,rfl,cj rfl ?_⟩
 unfold am2
 rw [bu]at g1
 have tz1:Tz h1 q1:=⟨bF k1 tz _root_.id,iq fun hn=>by have:=fr _ hn;have:=eE tz;omega⟩
 have er0:(RS.new iN).bC=[]:=rfl
 have el0:(RS.new iN).cM=iN:=rfl
 have no:∀x,¬vD [(⟨0,[],[]⟩:di)] (RS.new iN).bC x:=fun x r=>by
  rw [er0]at r
  induction r with
  |root a _=>cases a
  |next _ _ _ _ ih=>exact ih
 have lv:Lv [(⟨0,[],[]⟩:di)] (RS.new iN).bC []:=⟨gQ,fun x=>⟨nofun,fun r=>absurd r (no x)⟩⟩
 refine cj rfl (af9 g1 tz1 (by rw [er0];simp) t6 (fun h2 q2 s2 lT g2 hm re rl el ex hr=>?_) fun h2 q2 s2 lT tb op hm er el ex auc aub hto hr=>⟨_,_,rfl,cj rfl ?_⟩)
 ·exfalso
  refine hr [] lv ⟨?_,?_⟩
  ·rw [el0];exact vv (by show 2*0+0+2*6+131≤iN;omega)
  ·rw [el0,mL];exact vv (by show 2*(0+6)+0+2*5+131≤iN;omega)
 ·rw [←ex.1]
  have op1:qA h2 q2 s2 lT tb 1 (wT 1 sd):=op
  rw [er0]at er
  have er':s2.bC=[some 1]:=er
  refine hR h2 q2 s2 lT tb (wT 1 sd) ⟨op1,⟨fun r h=>?_,fun x hx=>?_⟩,⟨VO t6,rfl,aaZ _ _,?_⟩,?_,?_,?_,?_,?_⟩ ?_ ?_ ?_ aub (by rw [er'];exact bH _)
  ·rw [er']at h;have:=bM.1 h;exact(bt this).trans rfl
  ·rw [SQ]at hx;cases hx
  ·rw [SQ];exact fT _
  ·show 4≤2*M+4;omega
  ·show 0≤2*M+4;omega
  ·rw [el];exact hM
  ·rw [er'];show 1≤100;omega
  ·rw [er'];show 1≤10;omega
  ·exact(show aX h q1 from fr).gK k1 ex
  ·exact(show aX h q1 from fr).ex k1.1 ex
  ·exact bP k1.1 auc
theorem tv (tz:eM h BF (Nt.map fun n=>.int .u8 (n:Nat))) {iN:Nat} (hl:iN≤1048576) (hM:730*M+3000≤iN) {sd:Nat} (t6:sd<18446744073709551616)
  (hR:∀h' q' s' gm tb T',aN M h' q' s' gm tb 1 T' (AT.new sd)→bY N h h'→aX h q'→h.size≤tb→tb<h'.size→R (vt #[vp (sa tb),vp (sa q'.hb)]) h') :
  bq PG 20 #[vi (iN:Nat),uv sd] h R :=
 avw tz hl hM t6 fun h' q' s' gm tb T' x k f h1 h2 _=>hR h' q' s' gm tb T' x k f h1 h2
end
def AT.aO(A:AT):List HK:=Ah (A.su.map fun k=>(fU A.sd k,k))
def aS(l:List HK)(f:Nat):List HK:=l.filter fun x=>decide (f≤x.1)
theorem wd {a b:LN}(h1:HN a b)(h2:HN b a):False:=yo _ (qx h1 h2)
theorem amD {a b:List (LN)} (p:a.Perm b) (ha:a.Pairwise HN) (hb:b.Pairwise HN):a=b:=BW p (fun _ _ _ _ h1 h2=>wd h1 h2) ha hb
section
variable {h h' h2 g:Hp} {q q2:HQ} {s s2:RS} {nd kq lT:List di} {tb hn m0 Ud v v2 M M2:Nat} {T T1 T2:TD} {A A2q:AT} {k key kb:LN} {R:RP} {a c ks:Sl} {n:Int} {o:aP} {w:a8}
theorem aQ.oo(x:aQ T A):T.oo=A.aO:=by
 have e1:T.dc.map iM.hk=(T.dc.map (·.key)).map fun k=>(fU T.df k,k):=by
  rw [fh]
  refine cD fun y hy=>?_
  show (y.hs,y.key)=(fU T.df y.key,y.key)
  rw [x.k.hk y hy]
 have CV:(A.su.map fun k=>(fU A.sd k,k)).Nodup:=zx (f:=fun p:HK=>p.2) (by
  rw [fh]
  have:(fun p:HK=>p.2) ∘ (fun k=>(fU A.sd k,k))=id:=rfl
  rw [this,List.map_id]
  exact x.CV)
 refine Cb ?_ x.k.pw (Cc CV)
 refine T.sU.trans ?_
 rw [e1,x.sd]
 exact(x.kp.symm.map _).trans (oU _).symm
theorem aQ.oS(x:aQ T A)(f:Nat):T.oS f=aS A.aO f:=by unfold TD.oS aS;rw [x.oo]
theorem aN.arH(x:aN M h q s nd tb hn T A){k:LN}(hk:k∈T.dc.map (·.key)):k.length≤4096:=by
 obtain⟨y,hy,rfl⟩:=cy.1 hk
 obtain⟨n,ok,_⟩:=x.p.c.Uj hy
 exact ok.2.2.len
theorem PW(x:aN M h q s nd tb hn T A)(hR:∀a ks g,KS g a ks→ks.Perm A.su→ks.Pairwise HN→(∀k∈ks,fK k)→bY N h g→R (.slice a.a a.n a.c) g):bq PG 26 #[vp (sa tb)] h R :=
 akv x.p x.y.k fun a ob gw g bl hp pw b8 kk=>hR a _ g (bl.KA fun y hy=>by have:=x.arH (hp.mem_iff.1 (cy.2 ⟨y,hy,rfl⟩));omega) (hp.trans x.y.kp.symm) pw (fun k hk=>(by obtain⟨y,hy,rfl⟩:=cy.1 hk;exact b8 y hy)) kk
theorem amb(x:aN M h q s nd tb hn T A){f:Nat}(hf:f<18446744073709551616)(z:Int)(hR:∀a g,KS g a (jZ (mR z) (aS A.aO f) 0 []).2→bY N h g→R (vt #[uv (jZ (mR z) (aS A.aO f) 0 []).1,.slice a.a a.n a.c]) g):bq PG 30 #[vp (sa tb),uv f,vi z] h R:=by
 rw [←x.y.oS]at hR
 refine ac3 x.p x.y.k hf z fun a ob gw g bl e b8 kk=>hR a g ?_ kk
 rw [←e]
 refine bl.KA fun y hy=>?_
 have hm:y.key∈gw.map (·.key):=cy.2 ⟨y,hy,rfl⟩
 rw [e]at hm
 have hm2:y.key∈T.dc.map (·.key):=by
  rcases Hv _ _ _ _ hm with h|h
  ·cases h
  ·obtain⟨z,hz,ez⟩:=cy.1 h
   have hz2:=T.sU.mem_iff.1 ((dU.1 hz).1)
   obtain⟨w,hw,ew⟩:=cy.1 hz2
   refine cy.2 ⟨w,hw,?_⟩
   rw [←ez,←ew];rfl
 have:=x.arH hm2
 omega
theorem as7(x:aN M h q s nd tb hn T A)(z:Int)(hR:∀a g,KS g a (wI z (A.aO.map (·.2)))→bY N h g→R (.slice a.a a.n a.c) g):bq PG 33 #[vp (sa tb),vi z] h R:=by
 rw [←x.y.oo]at hR
 refine akn x.p x.y.k z fun a ob gw g bl e b8 kk=>hR a g ?_ kk
 rw [←e]
 refine bl.KA fun y hy=>?_
 have hm:y.key∈gw.map (·.key):=cy.2 ⟨y,hy,rfl⟩
 rw [e]at hm
 have hm1:y.key∈T.oo.map (·.2):=by
  unfold wI at hm
  split at hm
  ·exact hm
  ·exact dK hm
 have hm2:y.key∈T.dc.map (·.key):=by
  obtain⟨z,hz,ez⟩:=cy.1 hm1
  obtain⟨w,hw,ew⟩:=cy.1 (T.sU.mem_iff.1 hz)
  refine cy.2 ⟨w,hw,?_⟩
  rw [←ez,←ew];rfl
 have:=x.arH hm2
 omega
theorem atb(x:aN M h q s nd tb hn T A)(hR:R (vi (A.m.length:Nat)) h):bq PG 24 #[vp (sa tb)] h R:=by
 have hl:=x.p.len
 rw [x.y.len]at hR
 exact Z4 x.p.tr (by omega) hR
theorem al4(x:aN M h q s nd tb hn T A)(hR:∀h',bY N h h'→R (.agg #[vi (A.m.length:Nat),vi (A.sh.1:Nat),vi (A.sh.2.1:Nat),vi (A.sh.2.2:Nat)]) h'):bq PG 44 #[vp (sa tb)] h R:=by
 rw [x.y.len,←x.y.sh]at hR
 exact af7 x.p hR
def mk3(w:a8):Nat:=if w.1 then w.2.1 else 0
theorem vn(g:Gs h q s nd)(hv:Y2 s nd v w)(hR:R (uv (mk3 w)) h):bq PG 36 #[vp (sa q.hb),uv (s.fk v)] h R:=by
 refine apw (a1:=(s.fk v:Int)) ?_
 unfold atz
 rcases hv with⟨h1,h2⟩|⟨h1,h2,h3,h4⟩
 ·unfold mk3 at hR
  rw [h1]at hR
  refine cr (by rw [h2,RS.iQ];rfl) hR
 ·unfold mk3 at hR
  rw [h1,if_pos rfl]at hR
  refine cj (by rw [beq_eq_false_iff_ne];have:=RS.un g.v h3;omega) ?_
  exact Vu g h4 h3 (k:=1) rfl rfl ⟨_,_,rfl,cj rfl hR⟩
theorem Y2.zero(g:Gs h q s nd)(hv:Y2 s nd v w):(((s.fk v:Int))==(0:Int))=!w.1:=by
 rcases hv with⟨h1,h2⟩|⟨h1,h2,h3,h4⟩
 ·rw [h1,h2,RS.iQ];rfl
 ·rw [h1]
  show _=false
  rw [beq_eq_false_iff_ne]
  have:=RS.un g.v h3
  omega
theorem ars(x:aN M h q s nd tb hn T A)(y:aN M2 h q2 s2 lT m0 Ud T2 A2q)(e:A.m.Perm A2q.m)(sr:Zs h q c kb)(TX:Zs h q2 c kb)(hl:kb.length≤140737488351232)(hR:∀h',bY N h h'→R (vb true) h') :
  bq PG 43 #[vp (sa q.hb),vp (sa tb),vp (sa q2.hb),vp (sa m0),.slice c.a c.n c.c] h R:=by
 have AZ:A2q.Bz kb=A.Bz kb:=by
  cases h1:A.Bz kb with
  |none =>
   unfold AT.Bz at h1 ⊢
   rw [mu]at h1 ⊢
   exact fun z hz=>h1 z (e.mem_iff.2 hz)
  |some p =>
   unfold AT.Bz at h1 ⊢
   have hp:=ip h1
   have hk:=ox h1
   have hk:=of_decide_eq_true hk
   have:=tl y.y.CV (e.mem_iff.1 hp)
   rw [hk]at this
   exact this
 refine apv ?_
 unfold atu
 refine ame x sr hl (fun wX h1 k1=>⟨_,_,_,_,rfl,?_⟩) fun w v h1 xK k1 vo=>⟨_,_,_,_,rfl,?_⟩
 ·have y1:=y.cI k1
  refine ame y1 (TX.cI y.p.g k1) hl (fun _ h2 k2=>⟨_,_,_,_,rfl,?_⟩) fun w v h2 ZI _ _=>absurd (ZI.symm.trans (AZ.trans wX)) nofun
  refine cr rfl (cr rfl (cr rfl (cr rfl ?_)))
  have g1:=(x.cI (k1.trans k2)).p.g
  have g2:=(y1.cI k2).p.g
  have z1:=vn (R:=fun r h'=>∃t58:Int,r=vu t58∧bq PG 36 #[vp (sa q2.hb),vu ((0:Nat):Int)] h' fun r h4=>∃t61:Int,r=vu t61∧R ((vb (t58==t61):Value)) h4) (v:=0) (w:=(false,0,0)) g1 (.inl ⟨rfl,rfl⟩) ⟨_,rfl,?_⟩
  ·rw [RS.iQ]at z1;exact z1
  ·have z2:=vn (R:=fun r h4=>∃t61:Int,r=vu t61∧R ((vb (((mk3 (false,0,0):Nat):Int)==t61):Value)) h4) (v:=0) (w:=(false,0,0)) g2 (.inl ⟨rfl,rfl⟩) ⟨_,rfl,by rw [beq_self_eq_true];exact hR h2 (k1.trans k2)⟩
   rw [RS.iQ]at z2;exact z2
 ·have y1:=y.cI k1
  refine ame y1 (TX.cI y.p.g k1) hl (fun wX _ _=>absurd (wX.symm.trans (AZ.trans xK)) nofun) fun w2 v2 h2 ZI k2 vo2=>⟨_,_,_,_,rfl,?_⟩
  have ew:w2=w:=by
   have:=ZI.symm.trans (AZ.trans xK)
   exact congrArg Prod.snd (bt this)
  subst ew
  have g1:=(x.cI (k1.trans k2)).p.g
  have g2:=(y1.cI k2).p.g
  refine cr (beq_self_eq_true _) (cr (beq_self_eq_true _) (cr rfl (cr (by rw [vo.zero g1,vo2.zero g2];exact beq_self_eq_true _) ?_)))
  refine vn g1 vo ⟨_,rfl,vn g2 vo2 ⟨_,rfl,?_⟩⟩
  rw [beq_self_eq_true]
  exact hR h2 (k1.trans k2)
theorem ov(h:Hp)(b i:Nat)(hi:i≠b):(zy h b)[i]?=h[i]?:=by
 unfold zy
 rw [gY,if_neg (Ne.symm hi)]
theorem dj(h:Hp)(b:Nat):(zy h b).size=h.size:=by unfold zy;rw [Array.size_modify]
theorem zi(h:Hp)(b:Nat)(a:Addr):cell (zy h b) a=cell h a:=by
 by_cases e:b=a.block
 ·unfold cell zy
  rw [gY,if_pos e]
  cases h[a.block]? with
  |none=>rfl
  |some o=>cases o<;>rfl
 ·unfold cell
  rw [ov h b _ (Ne.symm e)]
theorem ant(h:Hp):bY N h (zy (h.push (.cells #[.int .u8 97] 5)) h.size)∧dZ (zy (h.push (.cells #[.int .u8 97] 5)) h.size) (sa h.size) ([97].map bv)∧h.size<(zy (h.push (.cells #[.int .u8 97] 5)) h.size).size:=by
 have k1:bY N h (h.push (.cells #[.int .u8 97] 5)):=cF _ _ _
 have row:eM (h.push (.cells #[.int .u8 97] 5)) h.size [bv 97]:=du h _ 5
 have hz:=eE row
 refine⟨⟨by rw [dj];exact k1.1,fun i hi _=>(ov _ _ _ (by omega)).trans (k1.2 i hi _root_.id)⟩,fun j v hj=>?_,by rw [dj];exact hz⟩
 rw [zi]
 exact lq row j v hj
theorem aua (rd:dZ h c.a ([97].map bv)) (hn:c.n=1) (hR:∀h',bY N h h'→R (vb true) h'):bq PG 56 #[.slice c.a c.n c.c,.string ⟨#[97]⟩] h R:=by
 refine apu ?_
 unfold att
 refine⟨by show 1<2 ^ 62;omega,fun c7 hc7 _=>dh fun h1 e1=>?_⟩
 have hc7:1≤c7:=hc7
 have k1:bY N h h1:=e1▸cF _ _ _
 have rw1:dZ h1 (sa h.size) ([97].map bv):=by
  intro j v hv
  have hj:j<1:=by have:=(bp.1 hv).1;simpa using this
  rw [cm,e1]
  unfold cell
  simp only [Array.getElem?_push_size]
  show ((Array.map (fun b=>Value.int IntKind.u8 b.toNat) #[(97:UInt8)])++Array.replicate (c7-1) (Value.int IntKind.u8 0))[j]?=some v
  rw [nJ (by simpa using hj)]
  match j,hj with
  | 0,_ =>
   have hv:some (bv 97)=some v:=hv
   rw [←hv,Array.getElem?_map];rfl
 refine ab9 (a0:=c) (a1:=⟨some (ad h.size),1,c7⟩) ?_
 unfold aoe
 refine agb (a:=c) (c:=⟨some (ad h.size),1,c7⟩) (k:=[97]) (k':=[97]) (fC k1 rd) hn (by decide) rw1 rfl ?_
 refine⟨_,rfl,_,rfl,?_⟩
 rw [vx]
 exact hR h1 k1
theorem alZ (tz:eM h BF (Nt.map fun n=>.int .u8 (n:Nat))) (hR:∀h',bY N h h'→R (vb true) h'):bq PG 19 #[] h R:=by
 refine apD ?_
 unfold atQ
 refine tv (M:=1) (iN:=4000) (sd:=7) tz (by omega) (by omega) (by omega) fun h1 q1 s1 kq tb T1 x1 k1 fr1 _ _=>⟨_,_,rfl,cj rfl ?_⟩
 unfold am7
 refine cj rfl (dh fun ha ea=>bw (dh fun hb eb=>?_))
 obtain⟨kb,rb,zbq⟩:=ant h1
 rw [ea]at eb
 rw [show (nb h1).block=h1.size from rfl]at eb
 rw [←eb]at kb rb zbq
 have x2:=x1.cI kb
 have sr:Zs hb q1 ⟨some (ad h1.size),1,1⟩ [97]:=⟨rb,rfl,(by intro c hc;simp at hc;omega),fun p hp _=>by
  obtain rfl:=bt hp
  exact⟨x1.p.g.st.fr (bH _),zbq⟩⟩
 have z:=as8 (R:=fun r h4=>∃apZ:Bool,∃apY:Int,r=vt #[vb apZ,vi apY]∧bX (!apZ) (yk (sa tb) true h4 R) (yk (sa tb) (apY != (0:Int)) h4 R)) (v:=0) (w1:=1) (w2:=2) x2 sr (by simp) (.inl rfl) (by omega) (by omega) (by show 0<1;omega) fun h3 q3 s3 SS T3 a3 x3=>⟨_,_,rfl,?_⟩
 ·rw [RS.iQ]at z;exact z
 ·refine cj rfl ?_
  unfold yk
  have e3:(AT.new 7).put [97] (decide ((0:Nat)≠0),1,2)=⟨7,li (tM (4,0,0)) 1,[([97],(false,1,2))]⟩:=rfl
  rw [e3]at x3
  have k3:=(fr1.gK k1 (Ex.pm kb fun b hb=>x1.p.g.st.fr hb))
  have k3':bY N h h3:=fr1.gK k3 a3.ex
  refine cj rfl (dh fun hc ec=>bw (dh fun hd ed=>?_))
  obtain⟨kd,rd,zdq⟩:=ant h3
  rw [ec]at ed
  rw [show (nb h3).block=h3.size from rfl]at ed
  rw [←ed]at kd rd zdq
  have x4:=x3.cI kd
  have sr4:Zs hd q3 ⟨some (ad h3.size),1,1⟩ [97]:=⟨rd,rfl,(by intro c hc;simp at hc;omega),fun p hp _=>by
   obtain rfl:=bt hp
   exact⟨x3.p.g.st.fr (bH _),zdq⟩⟩
  refine ame x4 sr4 (by simp) (fun wX=>absurd wX nofun) fun w v h5 hw k5 vo=>⟨_,_,_,_,rfl,?_⟩
  have hw:some (([97]:LN),((false,1,2):a8))=some ([97],w):=hw
  obtain rfl:((false,1,2):a8)=w:=congrArg Prod.snd (bt hw)
  refine PW (x4.cI k5) fun al ks g ksg pk _ _ k6=>⟨al,rfl,cr rfl (cr rfl (cr rfl ?_))⟩
  obtain rfl:ks=[[97]]:=List.perm_singleton.1 (show ks.Perm [[97]]from pk)
  refine atb ((x4.cI k5).cI k6) ⟨_,rfl,cr rfl (cr (by rw [ksg.n];rfl) ?_)⟩
  obtain⟨p,c,e1,e2,e3,e4,e5⟩:=ksg.TJ 0 [97] rfl
  refine⟨⟨by omega,by rw [ksg.n];show (0:Int)<((1:Nat):Int);omega⟩,cW e1 ⟨c,e2,aua e3 e4 fun h7 k7=>⟨_,rfl,hR h7 ?_⟩⟩⟩
  exact k3'.trans (kd.trans (k5.trans (k6.trans k7)))
end
structure aT (h:Hp) (a:Sl) (ops:List aP):Prop where
 n:a.n=ops.length
 iL:∀(i:Nat) (o:aP),ops[i]?=some o→∃p,a.a=some p∧(∀(j:Nat) (v:Value),o.cells[j]?=some v→cell h ((p.add (i*5)).add j)=some v)∧o.Ok h
section
variable {h h' h2 g h0 h1:Hp} {q q' q2 q1:HQ} {s s' s2 s1:RS} {nd gm kq lT:List di} {tb hn m0 v M:Nat} {T T' T1 T2:TD} {A A2q A1q:AT} {k key kb:LN} {R:RP} {a c:Sl} {n:Int} {o:aP} {ops:List aP} {S:Nat→Prop}
theorem aT.cI(x:aT h a ops)(k:bY N h h'):aT h' a ops :=
 ⟨x.n,fun i o ho=>by
  obtain⟨p,e1,e2,e3⟩:=x.iL i o ho
  exact⟨p,e1,fun j v hv=>qP k (e2 j v hv),e3.cI k⟩⟩
theorem anq {t:Int}{X P:Prop}(h:¬(1000≤t∧t<2000)) (p:P):bX (decide (t≥(1000:Int))) (bX (decide (t<(2000:Int))) X P) P :=
 ca (fun h1=>cj (decide_eq_false fun h2=>h ⟨h1,h2⟩) p) fun _=>p
theorem aN.HP(x:aN M h q s nd tb hn T A)(k:bY S h h')(hS:∀b,S b→q.bR b=.out)(ht:¬S tb)(hz:¬S BF):aN M h' q s nd tb hn T A :=
 ⟨⟨x.p.g.HP k hS,⟨bF k x.p.l.row ht,x.p.l.out⟩,x.p.pos,x.p.lt,x.p.held,x.p.c,⟨bF k x.p.tz.row hz,x.p.tz.out⟩⟩,x.o,x.y,x.s1,x.s2,x.iN,x.rl,x.crq⟩
theorem ami(x:aN M h q s nd tb hn T A)(hR:∀h' q' s',uB h q s nd T h' q' s' nd T→aN M h' q' s' nd tb hn T A→R (vt #[]) h'):bq PG 32 #[vp (sa q.hb)] h R :=
 SH x.p.g fun h' q' s' g er el ex _=>(have a:=uB.gone x.p g er el ex;hR h' q' s' a (x.HS a (aZ (fT _)) x.y x.s1 x.s2))
theorem aoR(x:aN M h q s nd tb hn T A){i:Int}(hR:∀h' q' s' e,uB h q s nd T h' q' s' nd T→aN M h' q' s' nd tb hn T A→R (vi e) h'):bq PG 42 #[vp (sa q.hb),vi i] h R :=
 Vt x.p.g fun h' q' s' e g er el ex=>(have a:=uB.gone x.p g er el ex;hR h' q' s' e a (x.HS a (aZ (fT _)) x.y x.s1 x.s2))
structure cv (M:Nat) (h0 h:Hp) (q:HQ) (s:RS) (nd:List di) (tb:Nat) (T:TD) (A:AT) (q2:HQ) (s2:RS) (lT:List di) (m0:Nat) (T2:TD) (A2q:AT):Prop where
 x:aN M h q s nd tb 1 T A
 y:aN M h q2 s2 lT m0 1 T2 A2q
 dis:∀b,q.bR b≠.out→q2.bR b=.out
 la:q2.bR tb=.out
 lb:q.bR m0=.out
 k:bY N h0 h
 fa:aX h0 q
 fb:aX h0 q2
theorem cv.swap(x:cv M h0 h q s nd tb T A q2 s2 lT m0 T2 A2q):cv M h0 h q2 s2 lT m0 T2 A2q q s nd tb T A :=
 ⟨x.y,x.x,fun y hy=>iq fun hn=>hy (x.dis y hn),x.lb,x.la,x.k,x.fb,x.fa⟩
theorem cv.PX(x:cv M h0 h q s nd tb T A q2 s2 lT m0 T2 A2q)(y:aN M h2 q1 s1 kq tb 1 T1 A1q)(ex:Ex h q h2 q1):cv M h0 h2 q1 s1 kq tb T1 A1q q2 s2 lT m0 T2 A2q where
 x:=y
 y:=x.y.HP ex.gK x.dis (fun hn=>hn x.lb) fun hn=>hn x.x.p.tz.out
 dis:=fun z hz=>by
  by_cases fE:z<h.size
  ·exact x.dis z fun e=>hz (ex.out fE e)
  ·exact x.y.p.g.st.fr (by omega)
 la:=x.la
 lb:=ex.out (eE x.y.p.l.row) x.lb
 k:=x.fa.gK x.k ex
 fa:=x.fa.ex x.k.1 ex
 fb:=x.fb
theorem cv.cI(x:cv M h0 h q s nd tb T A q2 s2 lT m0 T2 A2q)(k:bY N h h2):cv M h0 h2 q s nd tb T A q2 s2 lT m0 T2 A2q :=
 ⟨x.x.cI k,x.y.cI k,x.dis,x.la,x.lb,x.k.trans k,x.fa,x.fb⟩
structure Loc (h:Hp) (q q2:HQ) (b:Nat) (cs:LV):Prop where
 r:eM h b cs
 o1:q.bR b=.out
 o2:q2.bR b=.out
theorem Loc.G0 {b:Nat}{cs:LV}(x:Loc h q q2 b cs)(ex:Ex h q h' q'):Loc h' q' q2 b cs:=⟨bF ex.gK x.r fun hn=>hn x.o1,ex.out (eE x.r) x.o1,x.o2⟩
theorem Loc.ex2 {b:Nat}{cs:LV}(x:Loc h q q2 b cs)(ex:Ex h q2 h' q'):Loc h' q q' b cs:=⟨bF ex.gK x.r fun hn=>hn x.o2,x.o1,ex.out (eE x.r) x.o2⟩
theorem aP.Ok.src(x:aP.Ok h0 o)(k:bY N h0 h)(f:aX h0 q):Zs h q o.key o.kb :=
 ⟨fC k x.kk.rd,x.kk.n,x.kk.b8,fun p hp hn=>⟨f.Tw (x.kk.src p hp hn),bZ (x.kk.src p hp hn) k.1⟩⟩
theorem il {i:Nat}{p:Addr}(hp:∀(j:Nat) (v:Value),o.cells[j]?=some v→cell h ((p.add (i*5)).add j)=some v) {K:Hp→Prop} (hK:∀h',eM h' h.size o.cells→bY N h h'→K h') :
  ∃apW:Bool,cell h (p.add ((i:Int).toNat*5))=some (vb apW)∧∃rq:Sl,cell h ((p.add ((i:Int).toNat*5)).add 1)=some (.slice rq.a rq.n rq.c)∧∃apV:Int,cell h ((p.add ((i:Int).toNat*5)).add 2)=some (vu apV)∧∃apU:Int,cell h ((p.add ((i:Int).toNat*5)).add 3)=some (vu apU)∧∃apT:Int,cell h ((p.add ((i:Int).toNat*5)).add 4)=some (vi apT)∧gi (h.push (.cells #[vb false,.slice none 0 0,vu 0,vu 0,vi 0] 41)) fun h5=>Go.Ev.St h5 (nb h) (vb apW) fun h6=>Go.Ev.St h6 ((nb h).add 1) (.slice rq.a rq.n rq.c) fun h7=>Go.Ev.St h7 ((nb h).add 2) (vu apV) fun h8=>Go.Ev.St h8 ((nb h).add 3) (vu apU) fun h9=>Go.Ev.St h9 ((nb h).add 4) (vi apT) fun Dq=>K Dq:=by
 have c0:=hp 0 _ rfl
 have c0:cell h (p.add (i*5))=some (vb o.gone):=by
  have:=c0;rw [qJ,iF]at this;exact this
 rw [bu]
 refine⟨_,c0,o.key,hp 1 _ rfl,_,hp 2 _ rfl,_,hp 3 _ rfl,_,hp 4 _ rfl,dh fun h5 e5=>?_⟩
 have k5:bY N h h5:=e5▸cF _ _ _
 have w5:eM h5 h.size [vb false,.slice none 0 0,vu 0,vu 0,vi 0]:=e5▸du h #[vb false,.slice none 0 0,vu 0,vu 0,vi 0] 41
 clear e5
 rw [show nb h=ad h.size from rfl]
 have st:∀ {ga gb:Hp},bY N h ga→bY (fun b=>b=h.size) ga gb→bY N h gb:=fun {ga gb} ka kb=>⟨bP ka.1 kb.1,fun b hb _=>(kb.2 b (bZ hb ka.1) (by show ¬b=h.size;omega)).trans (ka.2 b hb _root_.id)⟩
 refine eu w5 (i:=0) rfl (by simp) fun h6 w6 j6q=>?_
 have k6:=st k5 j6q
 refine eu w6 (i:=1) (cm _ _) (by simp) fun h7 w7 j7=>?_
 have k7:=st k6 j7
 refine eu w7 (i:=2) (cm _ _) (by simp) fun h8 w8 j8q=>?_
 have k8:=st k7 j8q
 refine eu w8 (i:=3) (cm _ _) (by simp) fun h9 w9 j9q=>?_
 have k9:=st k8 j9q
 refine eu w9 (i:=4) (cm _ _) (by simp) fun Dq w10 j10=>?_
 exact hK Dq w10 (st k9 j10)
theorem Y3 {sd:Nat}{n0:Int}{a2 a3:Sl}(tz:eM h BF (Nt.map fun n=>.int .u8 (n:Nat))) (t6:sd<18446744073709551616) (st:aT h a2 ops) (hR:∀h',bY N h h'→R (vb true) h') :
  bq PG 10 #[.agg #[uv sd,vi n0,.slice a2.a a2.n a2.c,.slice a3.a a3.n a3.c]] h R:=by
 refine apE (pF:=(sd:Int)) ?_
 unfold atS
 refine dh fun h1 e1=>?_
 have k1:bY N h h1:=e1▸cF _ _ _
 have r1:eM h1 h.size [uv sd,vi n0,.slice a2.a a2.n a2.c,.slice a3.a a3.n a3.c]:=e1▸du h #[uv sd,vi n0,.slice a2.a a2.n a2.c,.slice a3.a a3.n a3.c] 30
 clear e1
 rw [show nb h=ad h.size from rfl]
 have tz1:=bF k1 tz _root_.id
 refine alZ tz1 fun h2 k2=>⟨_,rfl,cj rfl ?_⟩
 have r2:=bF k2 r1 _root_.id
 have tz2:=bF k2 tz1 _root_.id
 refine⟨_,(bS r2 0).trans rfl,?_⟩
 refine tv (M:=301) (iN:=1000000) tz2 (by omega) (by omega) t6 fun h3 q s nd tb T x3 k3 fr3 _ tbl=>⟨_,_,rfl,?_⟩
 have r3:=bF k3 r2 _root_.id
 refine⟨_,(bS r3 0).trans rfl,?_⟩
 refine tv (M:=301) (iN:=999000) (bF k3 tz2 _root_.id) (by omega) (by omega) t6 fun h4 q2 s2 lT m0 T2 y4 k4 fr4 tbn _=>⟨_,_,rfl,?_⟩
 have k14:bY N h1 h4:=k2.trans (k3.trans k4)
 have tw:cv 301 h1 h4 q s nd tb T (AT.new sd) q2 s2 lT m0 T2 (AT.new sd):=by
  refine⟨x3.cI k4,y4,fun b hb=>?_,?_,?_,k14,fr3.arF k2.1,fr4.arF (k2.trans k3).1⟩
  ·exact iq fun hn=>hb (x3.p.g.st.fr (fr4 b hn))
  ·exact iq fun hn=>by have:=fr4 _ hn;omega
  ·exact x3.p.g.st.fr tbn
 refine cj rfl (cj rfl ⟨a2,ia (bF k4 r3 _root_.id) rfl,?_⟩)
 unfold VD
 have sn:=st.n
 refine ca (fun fE=>cr rfl (hR h4 (k1.trans k14))) fun o5=>?_
 have o0:ops.length≤300:=by omega
 refine Fr (fun m s1 s3 s4 s5 s6 s7 g=>∃(i:Nat) (q:HQ) (s:RS) (nd:List di) (T:TD) (q2:HQ) (s2:RS) (lT:List di) (T2:TD) (A:AT),
  s1=ad h.size∧s3=some (ad tb)∧s4=some (ad q.hb)∧s5=some (ad m0)∧s6=some (ad q2.hb)∧s7=(i:Int)∧m+i=ops.length∧A.m.length≤i∧cv 301 h1 g q s nd tb T A q2 s2 lT m0 T2 A) ops.length ⟨0,q,s,nd,T,q2,s2,lT,T2,_,rfl,rfl,rfl,rfl,rfl,rfl,rfl,bH _,tw⟩ ?_
 clear tw x3 y4 fr3 fr4 k4 k3 k14 r3 r2 tz2 tbl tbn o5
 rintro n1 s1 s3 s4 s5 s6 s7-g ⟨i,q,s,nd,T,q2,s2,lT,T2,A,rfl,rfl,rfl,rfl,rfl,rfl,hm,hAi,tw⟩
 unfold ana
 have rg:=bF tw.k r1 _root_.id
 have sg:=st.cI (k1.trans tw.k)
 have st1:=st.cI k1
 refine⟨a2,ia rg rfl,ca (fun fE=>?_) fun o5=>?_⟩
 ·have hi:i<ops.length:=by omega
  obtain⟨p,hp,xH,ook⟩:=sg.iL i ops[i] (br hi)
  obtain⟨_,_,_,cS⟩:=st1.iL i ops[i] (br hi)
  generalize ops[i]=o at *
  refine⟨a2,ia rg rfl,⟨by omega,fE⟩,cW hp (il xH fun g1 rl kl=>?_)⟩
  have fo1:q.bR g.size=.out:=tw.x.p.g.st.fr (bH _)
  have fo2:q2.bR g.size=.out:=tw.y.p.g.st.fr (bH _)
  have tw1:=tw.cI kl
  have lc:Loc g1 q q2 g.size o.cells:=⟨rl,fo1,fo2⟩
  have hA:A.m.length<301:=by omega
  rw [show nb g=ad g.size from rfl]
  have atZ:=ook.cI kl
  refine⟨_,(bS lc.r 0).trans rfl,o.key,by rw [cm];exact(bS lc.r 1).trans rfl,_,by rw [cm];exact(bS lc.r 2).trans rfl,_,by rw [cm];exact(bS lc.r 3).trans rfl,_,by rw [cm];exact(bS lc.r 4).trans rfl,?_⟩
  refine al0 tw1.x atZ (fun p hp hn=>tw1.fa.Tw (cS.kk.src p hp hn)) hA fun g2 q' s' gm T' a2' x2=>⟨_,rfl,?_⟩
  have tw2:=tw1.PX x2 a2'.ex
  have lc2:=lc.G0 a2'.ex
  rw [←a2'.ex.1]
  clear a2' x2 tw1 lc
  have ok2:o.Ok g2:=cS.cI tw2.k
  refine⟨_,(bS lc2.r 0).trans rfl,o.key,by rw [cm];exact(bS lc2.r 1).trans rfl,_,by rw [cm];exact(bS lc2.r 2).trans rfl,_,by rw [cm];exact(bS lc2.r 3).trans rfl,_,by rw [cm];exact(bS lc2.r 4).trans rfl,?_⟩
  refine al0 tw2.y ok2 (fun p hp hn=>tw2.fb.Tw (cS.kk.src p hp hn)) hA fun g3 q2' s2' atg T2' a3' y3=>⟨_,rfl,?_⟩
  have tw3:=(tw2.swap.PX y3 a3'.ex).swap
  have lc3:=lc2.ex2 a3'.ex
  rw [←a3'.ex.1]
  clear a3' y3 tw2 lc2 ok2
  refine cj (bne_self_eq_false _) (anq (A.as5 o) ⟨by omega,?_⟩)
  have hA2:(A.step o).m.length≤i+1:=by have:=A.u7 o;omega
  have wi:wrap .i64 ((i:Int)+1)=((i+1:Nat):Int):=by rw [bU (by omega) (by omega)];omega
  have auo:=cS
  have later:∀g4 q4 s4,cv 301 h1 g4 q' s' gm tb T' (A.step o) q4 s4 atg m0 T2' (A.step o)→Loc g4 q' q4 g.size o.cells→(∀t94:Sl,True)→(∃t94:Sl,cell g4 ((ad g.size).add 1)=some (.slice t94.a t94.n t94.c)∧bq PG 43 #[vp (sa q'.hb),vp (sa tb),vp (sa q4.hb),vp (sa m0),.slice t94.a t94.n t94.c] g4 fun r Nr=>∃t95:Bool,r=vb t95∧bX (!t95) (R (vb false:Value) Nr) (bq PG 44 #[vp (sa tb)] Nr fun r h16=>∃apS:Int,∃apR:Int,∃apQ:Int,∃apP:Int,r=.agg #[vi apS,vi apR,vi apQ,vi apP]∧bq PG 44 #[vp (sa m0)] h16 fun r Nq=>∃alY:Int,∃alX:Int,∃alW:Int,∃alT:Int,r=.agg #[vi alY,vi alX,vi alW,vi alT]∧bX (!((apS==alY)&&((apR==alX)&&((apQ==alW)&&((apP==alT)&&(true)))))) (R (vb false:Value) Nq) (∃m,m<n1∧∃(i_1:Nat) (q:HQ) (s:RS) (nd:List di) (T:TD) (q2:HQ) (s2:RS) (lT:List di) (T2:TD) (A:AT),
    ad h.size=ad h.size∧some (ad tb)=some (ad tb)∧some (ad q'.hb)=some (ad q.hb)∧some (ad m0)=some (ad m0)∧some (ad q4.hb)=some (ad q2.hb)∧wrap .i64 ((i:Int)+(1:Int))=(i_1:Int)∧m+i_1=ops.length∧A.m.length≤i_1∧cv 301 h1 Nq q s nd tb T A q2 s2 lT m0 T2 A))):=fun g4 q4 s4 tw4 lc4 _=>by
   refine⟨o.key,by rw [cm];exact(bS lc4.r 1).trans rfl,?_⟩
   refine ars tw4.x tw4.y (fT _) (cS.src tw4.k tw4.fa) (cS.src tw4.k tw4.fb) cS.kk.len fun Nr k15=>⟨_,rfl,cj rfl ?_⟩
   have tw5:=tw4.cI k15
   refine al4 tw5.x fun h16 k16=>⟨_,_,_,_,rfl,?_⟩
   have tw6:=tw5.cI k16
   refine al4 tw6.y fun Nq GU=>⟨_,_,_,_,rfl,cj (by simp) ⟨n1-1,by omega,i+1,q',s',gm,T',q4,s4,atg,T2',_,rfl,rfl,rfl,rfl,rfl,wi,by omega,hA2,tw6.cI GU⟩⟩
  by_cases hc:Int.tmod (i:Int) 3=0
  ·refine cr (by rw [beq_iff_eq];exact hc) ⟨_,by rw [cm];exact(bS lc3.r 2).trans rfl,?_⟩
   refine rD (n:=4000) (by omega) (by omega) (by rw [Ks];split<;>omega) ⟨_,rfl,?_⟩
   refine aoR tw3.y fun g4 q4 s4 e4 a4 y4=>⟨_,rfl,?_⟩
   rw [←a4.ex.1]
   exact later g4 q4 s4 (tw3.swap.PX y4 a4.ex).swap (lc3.ex2 a4.ex) fun _=>trivial
  ·refine cj (by rw [beq_eq_false_iff_ne];exact hc) ?_
   refine ami tw3.y fun g4 q4 s4 a4 y4=>⟨rfl,?_⟩
   rw [←a4.ex.1]
   exact later g4 q4 s4 (tw3.swap.PX y4 a4.ex).swap (lc3.ex2 a4.ex) fun _=>trivial
 ·
  obtain⟨f,hf⟩:∃f:Nat,wrap .u64 n0=(f:Int):=⟨(wrap .u64 n0).toNat,(fj (by rw [tL];omega)).symm⟩
  have C2:f<18446744073709551616:=by have:=tL n0;omega
  refine⟨n0,ia rg rfl,?_⟩
  rw [hf]
  refine amb tw.x C2 3 fun l1 g1 DE k1'=>⟨_,l1,rfl,?_⟩
  have tw1:=tw.cI k1'
  have rg1:=bF k1' rg _root_.id
  refine⟨n0,ia rg1 rfl,?_⟩
  rw [hf]
  refine amb tw1.y C2 3 fun l2 g2 ks2 k2'=>⟨_,l2,rfl,cr (beq_self_eq_true _) ?_⟩
  have tw2:=tw1.cI k2'
  have at1:(jZ (mR 3) (aS A.aO f) 0 []).2.length<4611686018427387904:=by
   have h1:=KH (n:=mR 3) (aS A.aO f) 0 []
   have h2:(aS A.aO f).length≤A.aO.length:=dT _ _
   have h3:A.aO.length=A.m.length:=by unfold AT.aO AT.su;rw [(oU _).length_eq,bA,bA]
   have h4:([]:List (LN)).length=0:=rfl
   omega
  refine JR (DE.cI k2') ks2 at1 ⟨_,rfl,cr (decide_eq_true rfl) ?_⟩
  refine PW tw2.x fun l3 kx g3 ks3 pe3 pw3 _ k3'=>⟨l3,rfl,?_⟩
  have tw3:=tw2.cI k3'
  refine PW tw3.y fun l4 ky g4 ks4 pe4 pw4 _ k4'=>⟨l4,rfl,?_⟩
  obtain rfl:ky=kx:=amD (pe4.trans pe3.symm) pw4 pw3
  have at2:ky.length<4611686018427387904:=by
   have h1:=pe3.length_eq
   unfold AT.su at h1
   rw [bA]at h1
   omega
  refine JR (ks3.cI k4') ks4 at2 ⟨_,rfl,?_⟩
  rw [decide_eq_true rfl]
  exact hR g4 (k1.trans (tw3.cI k4').k)
end
end Go.Ev
namespace Go.Proofs.YtjigacanjlppiaaGreatDoor
open Go.ChangeShapes Go.WideShapes Go.ChangeAt Go.RowKit
open Go.Ev (aP aT Kf Da dZ uv bv Sq Sl fK)
theorem c4:Tryz.prog.cellsOf 4=1:=by kernel_rfl
theorem c28:Tryz.prog.cellsOf 28=1:=by kernel_rfl
theorem c30:Tryz.prog.cellsOf 30=4:=by kernel_rfl
theorem c41:Tryz.prog.cellsOf 41=5:=by kernel_rfl
section
variable {H:Type} {enc:TypeId × Value→H} {W:World}
theorem arm {n:Nat}{cs:List Value}{x:DataW H × List MemPlace}(h:tr enc W n 41 cs=some x)(hw:∀m∈x.1.weights Tryz.prog 41,m≤reachBytes):∃o:aP,cs=o.cells∧o.Ok W.heap:=by
 obtain⟨xs,n,_,rfl,hl,hn,No⟩:=DataW.trod_struct Tryz.underlying41 h
 rw [c41]at hl
 have e0:tr enc W n 4 ((cs.drop 0).take (Tryz.prog.cellsOf 4))=xs[0]?:=No 0 _ rfl
 have e1:tr enc W n 39 ((cs.drop 1).take (Tryz.prog.cellsOf 39))=xs[1]?:=No 1 _ rfl
 have e2:tr enc W n 27 ((cs.drop 2).take (Tryz.prog.cellsOf 27))=xs[2]?:=No 2 _ rfl
 have e3:tr enc W n 27 ((cs.drop 3).take (Tryz.prog.cellsOf 27))=xs[3]?:=No 3 _ rfl
 have e4:tr enc W n 3 ((cs.drop 4).take (Tryz.prog.cellsOf 3))=xs[4]?:=No 4 _ rfl
 rw [c4]at e0
 rw [c39]at e1
 rw [c27]at e2 e3
 rw [c3]at e4
 match xs,hn with
 | [x0,x1,x2,x3,x4],_ =>
  match cs,hl with
  | [v0,v1,v2,v3,v4],_ =>
   obtain⟨n0,a0,_⟩:=DataW.trod_bool Tryz.underlying4 (show tr enc W n 4 [v0]=some x0 from e0)
   obtain⟨d1,l1,p1,p2,p3,p4,p5,p6⟩:=M5 (show tr enc W n 39 [v1]=some x1 from e1) (fun m hm=>hw m (by
    simp only [DataW.weights,Tryz.underlying41]
    exact DataW.weights_mem_each (j:=1) (t:=39) rfl rfl m hm))
   obtain⟨n2,a2,_,w2⟩:=DataW.trod_int Tryz.underlying27 (show tr enc W n 27 [v2]=some x2 from e2)
   obtain⟨n3,a3,_,w3⟩:=DataW.trod_int Tryz.underlying27 (show tr enc W n 27 [v3]=some x3 from e3)
   obtain⟨n4,a4,_,_⟩:=DataW.trod_int Tryz.underlying3 (show tr enc W n 3 [v4]=some x4 from e4)
   simp only [rL,and_true]at a0 a2 a3 a4
   have u2:=bounds_u64 w2
   have u3:=bounds_u64 w3
   refine⟨⟨n0,d1,n2.toNat,n3.toNat,n4,l1⟩,?_,⟨al6 p2 p3 p4 p5 p6,by show n2.toNat<_;omega,by show n3.toNat<_;omega⟩⟩
   show [v0,v1,v2,v3,v4]=[.bool n0,Sq d1,uv n2.toNat,uv n3.toNat,iv n4]
   have q2:uv n2.toNat=.int .u64 n2:=by unfold uv;rw [fj u2.1]
   have q3:uv n3.toNat=.int .u64 n3:=by unfold uv;rw [fj u3.1]
   rw [q2,q3,a0,p1,a2,a3,a4]
theorem PR {n:Nat}{v:Value}{x:DataW H × List MemPlace}(h:tr enc W n 28 [v]=some x)(hw:∀m∈x.1.weights Tryz.prog 28,m≤reachBytes):∃(sl:Sl) (ops:List aP),v=.slice sl.a sl.n sl.c∧aT W.heap sl ops:=by
 rcases DataW.trod_slice Tryz.underlying28 h with⟨hc,_⟩|⟨a,len,cap,aoB,rest,k,_,hc,rfl,_,_,_,o0,anc,_,_⟩
 ·simp only [rL,and_true]at hc
  exact⟨⟨none,0,0⟩,[],hc,rfl,nofun⟩
 ·simp only [rL,and_true]at hc
  rw [c41]at anc
  have Ty:∀i,i<len→∃o:aP,o.Ok W.heap∧∀j v,o.cells[j]?=some v→Go.Ev.cell W.heap ((a.add (i*5)).add j)=some v:=fun i hi=>by
   have h1:=anc i hi
   have hi2:i<aoB.length:=by omega
   rw [br hi2]at h1
   obtain⟨cs1,Dp,hd⟩:=Option.bind_eq_some_iff.1 h1
   obtain⟨_,Jj,ZP⟩:=World.cells?_some Dp
   obtain⟨o,ho,vV⟩:=arm hd (fun m hm=>hw m (by
    simp only [DataW.weights,Tryz.underlying28,ck,bI]
    exact .inr (.inl (xj (cy.2 ⟨_,nQ hi2,rfl⟩) m hm))))
   refine⟨o,vV,fun j v hj=>?_⟩
   have nK:j<5:=(bp.1 hj).1
   have h3:Go.Ev.cell W.heap ((a.add (i*5)).add j)=cs1[j]?:=ZP j nK
   rw [h3,ho,hj]
  obtain⟨f,hf⟩:∃f:Nat→aP,∀i,i<len→(f i).Ok W.heap∧∀j v,(f i).cells[j]?=some v→Go.Ev.cell W.heap ((a.add (i*5)).add j)=some v :=
   ⟨fun i=>if hi:i<len then(Ty i hi).choose else⟨false,⟨none,0,0⟩,0,0,0,[]⟩,fun i hi=>by dsimp only;rw [dif_pos hi];exact(Ty i hi).choose_spec⟩
  refine⟨⟨some a,len,cap⟩,(List.range len).map f,hc,by simp,fun i o ho=>?_⟩
  obtain⟨i2,hi2,rfl⟩:=cy.1 (bx ho)
  have hi:i<len:=by have:=(bp.1 ho).1;simpa using this
  rw [bD,fL hi]at ho
  have ho:f i=f i2:=bt ho
  rw [←ho]
  exact⟨a,rfl,(hf i hi).2,(hf i hi).1⟩
theorem u6 {n:Nat}{cs:List Value}{x:DataW H × List MemPlace}(h:tr enc W n 30 cs=some x)(hw:∀m∈x.1.weights Tryz.prog 30,m≤reachBytes):
  ∃(sd:Nat) (n0:Int) (a b:Sl) (ops alN:List aP),cs=[uv sd,.int .i64 n0,.slice a.a a.n a.c,.slice b.a b.n b.c]∧sd<18446744073709551616∧I64 n0∧aT W.heap a ops∧aT W.heap b alN:=by
 obtain⟨xs,n,_,rfl,hl,hn,No⟩:=DataW.trod_struct Tryz.underlying30 h
 rw [c30]at hl
 have e0:tr enc W n 27 ((cs.drop 0).take (Tryz.prog.cellsOf 27))=xs[0]?:=No 0 _ rfl
 have e1:tr enc W n 3 ((cs.drop 1).take (Tryz.prog.cellsOf 3))=xs[1]?:=No 1 _ rfl
 have e2:tr enc W n 28 ((cs.drop 2).take (Tryz.prog.cellsOf 28))=xs[2]?:=No 2 _ rfl
 have e3:tr enc W n 28 ((cs.drop 3).take (Tryz.prog.cellsOf 28))=xs[3]?:=No 3 _ rfl
 rw [c27]at e0
 rw [c3]at e1
 rw [c28]at e2 e3
 match xs,hn with
 | [x0,x1,x2,x3],_ =>
  match cs,hl with
  | [v0,v1,v2,v3],_ =>
   obtain⟨n0,a0,_,w0⟩:=DataW.trod_int Tryz.underlying27 (show tr enc W n 27 [v0]=some x0 from e0)
   obtain⟨n1,a1,_,w1⟩:=DataW.trod_int Tryz.underlying3 (show tr enc W n 3 [v1]=some x1 from e1)
   obtain⟨s2,o2,a2,q2⟩:=PR (show tr enc W n 28 [v2]=some x2 from e2) (fun m hm=>hw m (by
    simp only [DataW.weights,Tryz.underlying30]
    exact DataW.weights_mem_each (j:=2) (t:=28) rfl rfl m hm))
   obtain⟨s3,o3,a3,q3⟩:=PR (show tr enc W n 28 [v3]=some x3 from e3) (fun m hm=>hw m (by
    simp only [DataW.weights,Tryz.underlying30]
    exact DataW.weights_mem_each (j:=3) (t:=28) rfl rfl m hm))
   simp only [rL,and_true]at a0 a1
   have u0:=bounds_u64 w0
   refine⟨n0.toNat,n1,s2,s3,o2,o3,?_,by omega,Om w1,q2,q3⟩
   have q0:uv n0.toNat=.int .u64 n0:=by unfold uv;rw [fj u0.1]
   rw [q0,a0,a1,a2,a3]
end
end Go.Proofs.YtjigacanjlppiaaGreatDoor
namespace Go.Proofs.YtjigacanjlppiaaGreatDoor
theorem oG {a b:Bool}(ha:a=true)(hb:b=true):(a&&b)=true:=by rw [ha,hb];rfl
theorem agn:(laidOutB Tryz.pinned.checked.prog)=true:=by kernel_rfl
theorem aai:(mapsRowed Tryz.pinned.checked.prog)=true:=by kernel_rfl
theorem ak1:(Tryz.pinned.checked.prog.stops==[])=true:=by kernel_rfl
theorem ak0:(Tryz.pinned.checked.prog.stopKnobs==[])=true:=by kernel_rfl
theorem ak6:(Rows.tableWordsRow.plainKeys==Tryz.pinned.checked.prog.plainKeys)=true:=by kernel_rfl
theorem ak5:(Tryz.pinned.checked.prog.stopsHeard)=true:=by kernel_rfl
theorem ak4:(Tryz.pinned.checked.prog.mayEnter)=true:=by kernel_rfl
theorem ak3:(Rows.tableWordsRow.lifted==Tryz.pinned.checked.prog.liftsFinal)=true:=by kernel_rfl
theorem ak2:(Tryz.pinned.checked.prog.make==some Rows.tableWordsRow.make)=true:=by kernel_rfl
theorem aaj:Tryz.pinned.checked.prog.mainIs=some (true,("b8ae2bf7243db7956e46e89f20a61fec621107f73a19fb5570f3943edb674345" : String).toList):=by kernel_rfl
theorem UY:false=Tryz.pinned.checked.prog.looks []:=by kernel_rfl
end Go.Proofs.YtjigacanjlppiaaGreatDoor
