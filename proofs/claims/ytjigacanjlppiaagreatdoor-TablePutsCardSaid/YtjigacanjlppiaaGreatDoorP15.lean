/- Printed by a program (own work) out of the l. No condition. -/
import Derived.Test.YtjigacanjlppiaaGreatDoorP14
set_option linter.all false
set_option maxRecDepth 1000000
open Go.IntKind (wrap)
namespace Go.Ev
open Go.Proofs
def ahb(m:Nat):LN:=if m=5 then [1,2,3,7,9]else []
def Mo(J1:Nat→Int→Int→Addr→OA→Int→Hp→Prop)(n1:Nat)(a b:Int)(c:Addr)(d:OA)(e:Int)(f:Bool)(h:Hp)(R:RP):Prop:=bX f (R (vb false:Value) h) (∃m,m<n1∧J1 m a b c d (wrap .i64 (e+(1:Int))) h)
def RF(J1:Nat→Int→Int→Addr→OA→Int→Hp→Prop)(n1:Nat)(l m:Int)(o:Addr)(p:OA)(b:Int)(M:Bool)(h:Hp)(R:RP):Prop:=bX M (∃q:Sl,cell h (o.add 1)=some (.slice q.a q.n q.c)∧(0≤b∧b<(q.n:Int))∧bE q.a fun e=>∃t:Int,cell h (e.add (b.toNat*10))=some (vi t)∧∃u:Int,cell h ((e.add (b.toNat*10)).add 1)=some (vi u)∧∃v:Int,cell h ((e.add (b.toNat*10)).add 2)=some (vi v)∧∃g:Sl,cell h ((e.add (b.toNat*10)).add 3)=some (.slice g.a g.n g.c)∧∃i:Sl,cell h ((e.add (b.toNat*10)).add 4)=some (.slice i.a i.n i.c)∧∃w:Int,cell h ((e.add (b.toNat*10)).add 5)=some (vi w)∧∃x:Int,cell h ((e.add (b.toNat*10)).add 6)=some (vi x)∧∃y:Int,cell h ((e.add (b.toNat*10)).add 7)=some (vu y)∧∃z:Int,cell h ((e.add (b.toNat*10)).add 8)=some (vu z)∧∃A:Int,cell h ((e.add (b.toNat*10)).add 9)=some (vu A)∧gi (h.push (.cells #[vi 0,vi 0,vi 0,.slice none 0 0,.slice none 0 0,vi 0,vi 0,vu 0,vu 0,vu 0] 89)) fun N=>St N (nb h) (vi t) fun O=>St O ((nb h).add 1) (vi u) fun P=>St P ((nb h).add 2) (vi v) fun Q=>St Q ((nb h).add 3) (.slice g.a g.n g.c) fun S=>St S ((nb h).add 4) (.slice i.a i.n i.c) fun T=>St T ((nb h).add 5) (vi w) fun U=>St U ((nb h).add 6) (vi x) fun V=>St V ((nb h).add 7) (vu y) fun W=>St W ((nb h).add 8) (vu z) fun X=>St X ((nb h).add 9) (vu A) fun d=>∃B:Int,cell d (nb h)=some (vi B)∧∃C:Int,cell d ((nb h).add 1)=some (vi C)∧∃D:Int,cell d ((nb h).add 2)=some (vi D)∧∃j:Sl,cell d ((nb h).add 3)=some (.slice j.a j.n j.c)∧∃k:Sl,cell d ((nb h).add 4)=some (.slice k.a k.n k.c)∧∃E:Int,cell d ((nb h).add 5)=some (vi E)∧∃F:Int,cell d ((nb h).add 6)=some (vi F)∧∃G:Int,cell d ((nb h).add 7)=some (vu G)∧∃H:Int,cell d ((nb h).add 8)=some (vu H)∧∃I:Int,cell d ((nb h).add 9)=some (vu I)∧bq PG 55 #[vp p,.agg #[vi B,vi C,vi D,.slice j.a j.n j.c,.slice k.a k.n k.c,vi E,vi F,vu G,vu H,vu I]] d fun r f=>∃J:Bool,r=vb J∧bX (!J) (∃K:Int,cell f (nb h)=some (vi K)∧bX (decide (K≥l)) (∃L:Int,cell f (nb h)=some (vi L)∧bX (decide (L≤m)) (Mo J1 n1 l m o p b true f R) (∃s:Int,cell f (nb h)=some (vi s)∧Mo J1 n1 l m o p b (s==(1:Int)) f R)) (∃s:Int,cell f (nb h)=some (vi s)∧Mo J1 n1 l m o p b (s==(1:Int)) f R)) (Mo J1 n1 l m o p b false f R)) (R (vb true:Value) h)
def XO(J1:Nat→Int→Int→Addr→OA→Int→Hp→Prop)(n1:Nat)(f i:Int)(e:Addr)(j:OA)(b:Int)(g:Nat→Value)(h:Hp)(R:RP):Prop:=∃d:Sl,cell h (e.add 1)=some (.slice d.a d.n d.c)∧bX (decide (b<(d.n:Int))) (RF J1 n1 f i e j b (decide (b<(65536:Int))) h R) (RF J1 n1 f i e j b false h R)
abbrev aeO(R:RP)(a b:Int)(c:Addr)(d:OA)(e:Int)(f:Hp):Prop:=dO (kJ PG fN ahb (sub [1,1,1,0,1,0,0] (bd Tryz.f18))) (dW PG fN ahb [1,1,1,0,1,0] (bd Tryz.f18) [] (eJ PG Tryz.f18 [] R)) [(1,vi a),(2,vi b),(3,vp (some c)),(7,vp d),(9,vi e)] 58 f
theorem O9 {R:RP}{s1 s2:Int}{s3:Addr}{s7:OA}{s9:Int}{h0:Hp}(J:Nat→Int→Int→Addr→OA→Int→Hp→Prop)(n0:Nat)(hi:J n0 s1 s2 s3 s7 s9 h0)(hr:∀n s1 s2 s3 s7 s9 g h,J n s1 s2 s3 s7 s9 h→XO  J n s1 s2 s3 s7 s9 g h R):aeO R s1 s2 s3 s7 s9 h0:=iz (l:=[(1,.i .i64),(2,.i .i64),(3,.a),(7,.p),(9,.i .i64)]) (J:=J) (n0:=n0) (s1,s2,s3,s7,s9,()) hi (fun n s1 s2 s3 s7 s9 g h=>XO  J n s1 s2 s3 s7 s9 g h R) hr
def aoo(j:Int)(b:Sl)(k l:Int)(h:Hp)(R:RP):Prop:=gi (h.push (.cells #[vi j,.slice b.a b.n b.c] 24)) fun e=>∃f:Int,cell e (nb h)=some (vi f)∧bq PG 54 #[vi f] e fun r g=>∃d:OA,∃i:Bool,r=vt #[vp d,vb i]∧bX (Option.isNone d) (R (vb i:Value) g) (aeO R k l (nb h) d 0 g)
theorem acu {pF:Int}{lf:Sl}{a1 a2:Int}{h:Hp}{R:RP}(hF:aoo pF lf a1 a2 h R):bq PG 18 #[.agg #[vi pF,vl lf],vi a1,vi a2] h R:=iY (lv:=ahb) Tryz.func18 hF
def aon(b a:Int)(h:Hp)(R:RP):Prop:=a≠0∧bX (decide ((Int.tmod b a)<(0:Int))) (R ((vi (wrap .i64 ((Int.tmod b a)+a)):Value)) h) (R ((vi (Int.tmod b a):Value)) h)
theorem acr {a0 a1:Int}{h:Hp}{R:RP}(hF:aon a0 a1 h R):bq PG 21 #[vi a0,vi a1] h R:=iY (lv:=kw) Tryz.func21 hF
def V4(m:Nat):LN:=if m=5 then [3,5]else []
def acj(l:OA)(m:Int)(h:Hp)(R:RP):Prop:=gi (h.push (.cells #[vi m] 3)) fun g=>gi (g.push (.cells #[.slice none 0 0] 37)) fun i=>∃j:Int,cell i (nb h)=some (vi j)∧bX (j==(0:Int)) (∃f:Sl,cell i (nb g)=some (.slice f.a f.n f.c)∧R (.slice f.a f.n f.c:Value) i) (bq PG 50 #[vp l] i fun r e=>∃k:Value,r=k∧yU PG fN k #[12] (SE (sub [1,1,1,0,1,0] (bd Tryz.f33))) (SD (sub [1,1,1,0,1,0] (bd Tryz.f33))) [(3,vp (some (nb h))),(5,vp (some (nb g)))] 22 e (CA (fun d=>∃b:Sl,cell d (nb g)=some (.slice b.a b.n b.c)∧d[e.size]?=some (.deferred (some []))∧gi (d.setIfInBounds e.size (.deferred none)) fun o=>R (.slice b.a b.n b.c:Value) o) (fun d=>d[e.size]?=some (.deferred (some []))∧gi (d.setIfInBounds e.size (.deferred none)) fun p=>R (.slice none 0 0:Value) p) fun id d=>if id=0 then(∃b:Sl,cell d (nb g)=some (.slice b.a b.n b.c)∧d[e.size]?=some (.deferred (some []))∧gi (d.setIfInBounds e.size (.deferred none)) fun q=>R (.slice b.a b.n b.c:Value) q)else False))
def Xk(s3 s5:Addr)(a0:Sl)(l:Nat)(h:Hp)(R:RP):Prop :=
 ∃r:Loop,h[l]?=some (.loop r)∧r.state=.ready∧gi (h.setIfInBounds l (.loop {r with state:=.busy})) fun h1=>∃t13:Sl,cell h1 s5=some (.slice t13.a t13.n t13.c)∧gi (h1.push (.cells #[.slice a0.a a0.n a0.c] 39)) fun h2=>im 39 1 24 #[.slice none 0 0] t13.a t13.n t13.c (some (nb h1)) 1 h2 fun ra3 rn3 rc3 h3=>St h3 s5 (.slice ra3 rn3 rc3) fun h4=>∃t17:Sl,cell h4 s5=some (.slice t17.a t17.n t17.c)∧∃t19:Int,cell h4 s3=some (vi t19)∧bX ((t17.n:Int)==t19) (Hf l R (some (.exit 0)) h4) (Hf l R none h4)
theorem Xj(s3 s5:Addr)(a0:Sl)(l:Nat)(g:Nat→Value)(h:Hp)(R:RP):wE PG fN V4 l (SE (sub [1,1,1,0,1,0] (bd Tryz.f33))) (SD (sub [1,1,1,0,1,0] (bd Tryz.f33))) (lU 22 [(3,vp (some s3)),(5,vp (some s5)),(12,.slice a0.a a0.n a0.c)] g) h R=Xk s3 s5 a0 l h R:=by kernel_rfl
noncomputable def qH(s3 s5:Addr)(g:Nat→Value)(fn:FuncId)(b:Nat)(st:LoopState)(ph:Option Code):Loop:=Dk fn (lU 22 [(3,vp (some s3)),(5,vp (some s5))] g) #[12] (SE (sub [1,1,1,0,1,0] (bd Tryz.f33))) (SD (sub [1,1,1,0,1,0] (bd Tryz.f33))) b st ph
theorem Xi {s3 s5:Addr}{a0:Sl}{l:Nat}{g:Nat→Value}{fn:FuncId}{b:Nat}{ph:Option Code}{h:Hp}{R:RP}(hl:h[l]?=some (.loop (qH s3 s5 g fn b .ready ph))) (hB:Xk s3 s5 a0 l h R):mV PG l [.slice a0.a a0.n a0.c] h R :=
 zJ (lv:=V4) (r:=qH s3 s5 g fn b .ready ph) (env:=lU 22 [(3,vp (some s3)),(5,vp (some s5)),(12,.slice a0.a a0.n a0.c)] g) mixed mh hl rfl (by kernel_rfl) (by kernel_rfl) (by kernel_rfl) (by kernel_rfl) (by kernel_rfl) (by
  show wE PG fN V4 l (SE (sub [1,1,1,0,1,0] (bd Tryz.f33))) (SD (sub [1,1,1,0,1,0] (bd Tryz.f33))) _ h R
  rw [Xj];exact hB)
theorem aci(a0:OA)(a1:Int)(h:Hp)(R:RP):acz PG fN V4 Tryz.f33 (bd Tryz.f33) [] [vp a0,vi a1] h R=acj a0 a1 h R:=by kernel_rfl
theorem Rz {a0:OA}{a1:Int}{h:Hp}{R:RP}(hF:acj a0 a1 h R):bq PG 33 #[vp a0,vi a1] h R :=
 uz (lv:=V4) (ik:=[]) (c:=(bd Tryz.f33)) (args:=[vp a0,vi a1]) mixed mh Tryz.func33 (by kernel_rfl) (by kernel_rfl) (by kernel_rfl) (by rw [aci];exact hF)
def Xe  (c:Int) (d:OA) (e:Bool) (h:Hp) (R:RP):Prop:=bX e (R (vt #[vp none,vb false]:Value) h) ((0≤(1:Int)∧(1:Int)≤(1:Int))∧(1:Int)<2 ^ 62∧(16:Nat)*(1:Int)≤2 ^ 48∧gi (h.push (.cells (ja #[vi 0,vu 0] ((1:Int).toNat*2)) 230)) fun a=>gi (a.push (.cells #[vi c,.slice (some (nb h)) ((1:Int).toNat) ((1:Int).toNat),.slice none 0 0,.slice none 0 0] 166)) fun b=>gi (b.push (.cells #[vp d,vp (some (nb a)),.slice none 0 0,.slice none 0 0,.slice none 0 0] 170)) fun f=>R ((vt #[vp (some (nb b)),vb true]:Value)) f)
def Mg  (b:Int) (a:OA) (c:Int) (d:Bool) (h:Hp) (R:RP):Prop:=bX d (bX (Option.isNone a) (R ((vt #[vp none,vb (c==(30:Int))]:Value)) h) (R (vt #[vp none,vb false]:Value) h)) (bX (Option.isNone a) (Xe  b a true h R) (Xe  b a (c != (0:Int)) h R))
def aod(a:Int)(h:Hp)(R:RP):Prop:=bq PG 57 #[vi a] h fun r d=>∃b:OA,∃c:Int,r=vt #[vp b,vi c]∧bX (decide (a<(128:Int))) (Mg  a b c true d R) (Mg  a b c (decide (a>(1048576:Int))) d R)
theorem ab8 {a0:Int}{h:Hp}{R:RP}(hF:aod a0 h R):bq PG 54 #[vi a0] h R:=iY (lv:=kw) Tryz.func54 hF
def Mf  (j:OA) (b d:Addr) (K:Bool) (h:Hp) (R:RP):Prop:=bX K (∃k:OA,cell h d=some (vp k)∧∃l:Int,cell h (d.add 1)=some (vi l)∧∃m:Bool,cell h (d.add 2)=some (vb m)∧∃o:Int,cell h b=some (vi o)∧∃p:Int,cell h (b.add 1)=some (vi p)∧∃q:Int,cell h (b.add 2)=some (vi q)∧∃e:Sl,cell h (b.add 3)=some (.slice e.a e.n e.c)∧∃f:Sl,cell h (b.add 4)=some (.slice f.a f.n f.c)∧∃s:Int,cell h (b.add 5)=some (vi s)∧∃t:Int,cell h (b.add 6)=some (vi t)∧∃u:Int,cell h (b.add 7)=some (vu u)∧∃v:Int,cell h (b.add 8)=some (vu v)∧∃w:Int,cell h (b.add 9)=some (vu w)∧bq PG 103 #[vp j,.agg #[vp k,vi l,vb m],.agg #[vi o,vi p,vi q,.slice e.a e.n e.c,.slice f.a f.n f.c,vi s,vi t,vu u,vu v,vu w]] h fun r L=>∃x:Bool,r=vb x∧R (vb x:Value) L) (∃y:OA,cell h d=some (vp y)∧∃z:Int,cell h (d.add 1)=some (vi z)∧∃A:Bool,cell h (d.add 2)=some (vb A)∧∃B:Int,cell h b=some (vi B)∧∃C:Int,cell h (b.add 1)=some (vi C)∧∃D:Int,cell h (b.add 2)=some (vi D)∧∃g:Sl,cell h (b.add 3)=some (.slice g.a g.n g.c)∧∃i:Sl,cell h (b.add 4)=some (.slice i.a i.n i.c)∧∃E:Int,cell h (b.add 5)=some (vi E)∧∃F:Int,cell h (b.add 6)=some (vi F)∧∃G:Int,cell h (b.add 7)=some (vu G)∧∃H:Int,cell h (b.add 8)=some (vu H)∧∃I:Int,cell h (b.add 9)=some (vu I)∧bq PG 104 #[vp j,.agg #[vp y,vi z,vb A],.agg #[vi B,vi C,vi D,.slice g.a g.n g.c,.slice i.a i.n i.c,vi E,vi F,vu G,vu H,vu I]] h fun r M=>∃J:Bool,r=vb J∧R (vb J:Value) M)
def Rp  (k:OA) (b d:Addr) (e:Int) (L:Bool) (h:Hp) (R:RP):Prop:=bX L (∃l:OA,cell h d=some (vp l)∧∃m:Int,cell h (d.add 1)=some (vi m)∧∃o:Bool,cell h (d.add 2)=some (vb o)∧∃p:Int,cell h b=some (vi p)∧∃q:Int,cell h (b.add 1)=some (vi q)∧∃s:Int,cell h (b.add 2)=some (vi s)∧∃f:Sl,cell h (b.add 3)=some (.slice f.a f.n f.c)∧∃g:Sl,cell h (b.add 4)=some (.slice g.a g.n g.c)∧∃t:Int,cell h (b.add 5)=some (vi t)∧∃u:Int,cell h (b.add 6)=some (vi u)∧∃v:Int,cell h (b.add 7)=some (vu v)∧∃w:Int,cell h (b.add 8)=some (vu w)∧∃x:Int,cell h (b.add 9)=some (vu x)∧bq PG 101 #[vp k,.agg #[vp l,vi m,vb o],.agg #[vi p,vi q,vi s,.slice f.a f.n f.c,.slice g.a g.n g.c,vi t,vi u,vu v,vu w,vu x]] h fun r M=>∃y:Bool,r=vb y∧R (vb y:Value) M) (bX (e==(9:Int)) (∃z:OA,cell h d=some (vp z)∧∃A:Int,cell h (d.add 1)=some (vi A)∧∃B:Bool,cell h (d.add 2)=some (vb B)∧∃C:Int,cell h b=some (vi C)∧∃D:Int,cell h (b.add 1)=some (vi D)∧∃E:Int,cell h (b.add 2)=some (vi E)∧∃i:Sl,cell h (b.add 3)=some (.slice i.a i.n i.c)∧∃j:Sl,cell h (b.add 4)=some (.slice j.a j.n j.c)∧∃F:Int,cell h (b.add 5)=some (vi F)∧∃G:Int,cell h (b.add 6)=some (vi G)∧∃H:Int,cell h (b.add 7)=some (vu H)∧∃I:Int,cell h (b.add 8)=some (vu I)∧∃J:Int,cell h (b.add 9)=some (vu J)∧bq PG 102 #[vp k,.agg #[vp z,vi A,vb B],.agg #[vi C,vi D,vi E,.slice i.a i.n i.c,.slice j.a j.n j.c,vi F,vi G,vu H,vu I,vu J]] h fun r N=>∃K:Bool,r=vb K∧R (vb K:Value) N) (bX (e==(10:Int)) (Mf  k b d (e==(10:Int)) h R) (bX (e==(11:Int)) (Mf  k b d (e==(11:Int)) h R) (Mf  k b d (e==(12:Int)) h R))))
def Fw  (f:OA) (b:Addr) (K:Bool) (h:Hp) (R:RP):Prop:=bX K (∃w:Int,cell h b=some (vi w)∧∃x:Int,cell h (b.add 1)=some (vi x)∧∃y:Int,cell h (b.add 2)=some (vi y)∧∃g:Sl,cell h (b.add 3)=some (.slice g.a g.n g.c)∧∃i:Sl,cell h (b.add 4)=some (.slice i.a i.n i.c)∧∃z:Int,cell h (b.add 5)=some (vi z)∧∃A:Int,cell h (b.add 6)=some (vi A)∧∃B:Int,cell h (b.add 7)=some (vu B)∧∃C:Int,cell h (b.add 8)=some (vu C)∧∃D:Int,cell h (b.add 9)=some (vu D)∧bq PG 100 #[vp f,.agg #[vi w,vi x,vi y,.slice g.a g.n g.c,.slice i.a i.n i.c,vi z,vi A,vu B,vu C,vu D]] h fun r L=>∃E:Bool,r=vb E∧R (vb E:Value) L) (bE f fun M=>∃o:Sl,cell h (M.add 2)=some (.slice o.a o.n o.c)∧bX ((o.n:Int)==(0:Int)) (R (vb true:Value) h) (bE f fun F=>∃j:Sl,cell h (F.add 2)=some (.slice j.a j.n j.c)∧∃p:Int,cell h (b.add 1)=some (vi p)∧bE f fun G=>∃k:Sl,cell h (G.add 2)=some (.slice k.a k.n k.c)∧∃d:Int,bq PG 21 #[vi p,vi (k.n:Int)] h (fun v h'=>v=(vi d)∧h'=h)∧(0≤d∧d<(j.n:Int))∧bE j.a fun l=>∃q:OA,cell h (l.add (d.toNat*3))=some (vp q)∧∃s:Int,cell h ((l.add (d.toNat*3)).add 1)=some (vi s)∧∃t:Bool,cell h ((l.add (d.toNat*3)).add 2)=some (vb t)∧gi (h.push (.cells #[vp none,vi 0,vb false] 172)) fun e=>(∃H:OA,cell e (l.add (d.toNat*3))=some (vp H)∧∃I:Int,cell e ((l.add (d.toNat*3)).add 1)=some (vi I)∧∃J:Bool,cell e ((l.add (d.toNat*3)).add 2)=some (vb J)∧Next.value (.agg #[vp H,vi I,vb J])=Next.value (.agg #[vp q,vi s,vb t]))∧(bq PG 21 #[vi p,vi (k.n:Int)] e fun v h'=>v=vi d∧h'=e)∧CS e (G.add 2) k∧CI .i64 e (b.add 1) p∧CS e (F.add 2) j∧St e (nb h) (vp q) fun N=>St N ((nb h).add 1) (vi s) fun O=>St O ((nb h).add 2) (vb t) fun u=>∃m:Int,cell u b=some (vi m)∧bX (m==(7:Int)) (Rp  f b (nb h) m (m==(7:Int)) u R) (Rp  f b (nb h) m (m==(8:Int)) u R)))
def Rq  (f:OA) (b:Addr) (u:Bool) (h:Hp) (R:RP):Prop:=bX u (∃g:Int,cell h b=some (vi g)∧∃i:Int,cell h (b.add 1)=some (vi i)∧∃j:Int,cell h (b.add 2)=some (vi j)∧∃d:Sl,cell h (b.add 3)=some (.slice d.a d.n d.c)∧∃e:Sl,cell h (b.add 4)=some (.slice e.a e.n e.c)∧∃k:Int,cell h (b.add 5)=some (vi k)∧∃l:Int,cell h (b.add 6)=some (vi l)∧∃m:Int,cell h (b.add 7)=some (vu m)∧∃o:Int,cell h (b.add 8)=some (vu o)∧∃p:Int,cell h (b.add 9)=some (vu p)∧bq PG 99 #[vp f,.agg #[vi g,vi i,vi j,.slice d.a d.n d.c,.slice e.a e.n e.c,vi k,vi l,vu m,vu o,vu p]] h fun r v=>∃q:Bool,r=vb q∧R (vb q:Value) v) (∃s:Int,cell h b=some (vi s)∧bX (decide (s≥(15:Int))) (Fw  f b true h R) (∃t:Int,cell h b=some (vi t)∧Fw  f b (decide (t<(1:Int))) h R))
def aoc(f:OA)(j k l:Int)(d e:Sl)(m o p q r:Int)(h:Hp)(R:RP):Prop:=gi (h.push (.cells #[vi j,vi k,vi l,.slice d.a d.n d.c,.slice e.a e.n e.c,vi m,vi o,vu p,vu q,vu r] 89)) fun b=>∃g:Int,cell b (nb h)=some (vi g)∧bX (decide (g≥(1:Int))) (∃i:Int,cell b (nb h)=some (vi i)∧Rq  f (nb h) (decide (i≤(6:Int))) b R) (Rq  f (nb h) false b R)
theorem ab7 {a0:OA}{mq mn nF:Int}{wD wC:Sl}{wB wA wx ww wu:Int}{h:Hp}{R:RP}(hF:aoc a0 mq mn nF wD wC wB wA wx ww wu h R):bq PG 55 #[vp a0,.agg #[vi mq,vi mn,vi nF,vl wD,vl wC,vi wB,vi wA,vu wx,vu ww,vu wu]] h R:=iY (lv:=kw) Tryz.func55 hF
def ag9(m:Nat):LN:=if m=38 then [0,3,11,12,17]else []
def Fs  (d e:OA) (f:Int) (g:Bool) (h:Hp) (R:RP):Prop:=bX g (R (vb false:Value) h) (bX (!(Option.isNone e)) (bE d fun i=>∃b:Sl,cell h (i.add 2)=some (.slice b.a b.n b.c)∧gi (h.push (.cells #[vp e,vi f,vb true] 172)) fun j=>im 172 3 24 #[vp none,vi 0,vb false] b.a b.n b.c (some (nb h)) 1 j fun k l m o=>bE d fun p=>St o (p.add 2) (.slice k l m) fun q=>R (vb true:Value) q) (R (vb true:Value) h))
def H5  (i:OA) (d:Int) (j:Addr) (h:Hp) (R:RP):Prop:=bE i fun k=>∃b:Sl,cell h (k.add 2)=some (.slice b.a b.n b.c)∧(0≤d∧d<(b.n:Int))∧bE b.a fun l=>St h ((l.add (d.toNat*3)).add 2) (vb false) fun e=>∃f:OA,cell e j=some (vp f)∧bq PG 46 #[vp f] e fun r m=>∃g:Int,r=vu g∧R ((vb (g==(0:Int)):Value)) m
abbrev aer(R:RP)(a:OA)(b c:Addr)(d e:Int)(f:Hp):Prop:=dO (kJ PG fN ag9 (sub [1,1,1,1,1,1,1,1,1,1,0,1,0,0] (bd Tryz.f99))) (dW PG fN ag9 [1,1,1,1,1,1,1,1,1,1,0,1,0] (bd Tryz.f99) [] (eJ PG Tryz.f99 [] R)) [(0,vp a),(3,vp (some b)),(11,vp (some c)),(12,vu d),(17,vi e)] 316 f
def Ma  (a:OA) (b c:Addr) (d:Int) (e:Bool) (h:Hp) (R:RP):Prop:=bX e (R (vb false:Value) h) (aer R a b c d 0 h)
def W0(J1:Nat→OA→Addr→Addr→Int→Int→Hp→Prop)(n1:Nat)(d:OA)(u i:Addr)(p b:Int)(g:Nat→Value)(h:Hp)(R:RP):Prop:=bE d fun M=>∃q:Sl,cell h (M.add 2)=some (.slice q.a q.n q.c)∧bX (decide (b<(q.n:Int))) (bE d fun N=>∃j:Sl,cell h (N.add 2)=some (.slice j.a j.n j.c)∧(0≤b∧b<(j.n:Int))∧bE j.a fun O=>∃x:Bool,cell h ((O.add (b.toNat*3)).add 2)=some (vb x)∧bX x (bE d fun P=>∃k:Sl,cell h (P.add 2)=some (.slice k.a k.n k.c)∧(0≤b∧b<(k.n:Int))∧bE k.a fun Q=>∃y:OA,cell h (Q.add (b.toNat*3))=some (vp y)∧∃z:Int,bq PG 46 #[vp y] h (fun v h'=>v=(vu z)∧h'=h)∧bE d fun S=>∃l:Sl,cell h (S.add 2)=some (.slice l.a l.n l.c)∧(0≤b∧b<(l.n:Int))∧bE l.a fun T=>∃A:Int,cell h ((T.add (b.toNat*3)).add 1)=some (vi A)∧∃B:Int,cell h (i.add 1)=some (vi B)∧bX (!((z==p)==(A==B))) (R (vb false:Value) h) (∃m,m<n1∧J1 m d u i p (wrap .i64 (b+(1:Int))) h)) (∃m,m<n1∧J1 m d u i p (wrap .i64 (b+(1:Int))) h)) (∃C:Int,cell h u=some (vi C)∧bX (C==(5:Int)) (bE d fun U=>∃D:OA,cell h U=some (vp D)∧bq PG 90 #[vp D,vu p] h fun r s=>∃E:Int,∃F:Int,r=vt #[vi E,vi F]∧bE d fun G=>∃e:Sl,cell s (G.add 3)=some (.slice e.a e.n e.c)∧∃H:Int,cell s (i.add 1)=some (vi H)∧gi (s.push (.cells #[vi E,vi H] 218)) fun I=>CS I (G.add 3) e∧im 218 2 16 #[vi 0,vi 0] e.a e.n e.c (some (nb s)) 1 I fun V W X Y=>bE d fun Z=>St Y (Z.add 3) (.slice V W X) fun f=>bE d fun aa=>∃J:OA,cell f (aa.add 1)=some (vp J)∧bE J fun ab=>∃o:Sl,cell f (ab.add 2)=some (.slice o.a o.n o.c)∧∃t:Int,cell f (i.add 1)=some (vi t)∧(0≤t∧t<(o.n:Int))∧bE o.a fun ac=>∃w:OA,cell f (ac.add (t.toNat*1))=some (vp w)∧bE w fun ad=>∃K:Int,cell f (ad.add 6)=some (vi K)∧bE w fun L=>gZ f (L.add 6)∧gi (fy f (L.add 6) (vi (wrap .i64 (K+(1:Int))))) fun ae=>R ((vb (F==(0:Int)):Value)) ae) (R (vb true:Value) h))
theorem OL {R:RP}{s0:OA}{s3 pc:Addr}{rO Ew:Int}{h0:Hp}(J:Nat→OA→Addr→Addr→Int→Int→Hp→Prop)(n0:Nat)(hi:J n0 s0 s3 pc rO Ew h0)(hr:∀n s0 s3 pc rO Ew g h,J n s0 s3 pc rO Ew h→W0  J n s0 s3 pc rO Ew g h R):aer R s0 s3 pc rO Ew h0:=iz (l:=[(0,.p),(3,.a),(11,.a),(12,.i .u64),(17,.i .i64)]) (J:=J) (n0:=n0) (s0,s3,pc,rO,Ew,()) hi (fun n s0 s3 pc rO Ew g h=>W0  J n s0 s3 pc rO Ew g h R) hr
def anA(d:OA)(aG aH aI:Int)(H I:Sl)(aJ aK aL aM aN:Int)(h:Hp)(R:RP):Prop:=gi (h.push (.cells #[vi aG,vi aH,vi aI,.slice H.a H.n H.c,.slice I.a I.n I.c,vi aJ,vi aK,vu aL,vu aM,vu aN] 89)) fun b=>∃w:Int,cell b (nb h)=some (vi w)∧bX (w==(1:Int)) (bE d fun aO=>∃O:OA,cell b aO=some (vp O)∧∃P:Int,cell b ((nb h).add 7)=some (vu P)∧bq PG 58 #[vp O,vu P] b fun r J=>∃x:OA,∃Q:Int,r=vt #[vp x,vi Q]∧bE d fun aP=>∃S:OA,cell J (aP.add 1)=some (vp S)∧∃T:Int,cell J ((nb h).add 7)=some (vu T)∧bq PG 142 #[vp S,vu T] J fun r U=>∃y:Int,∃V:Int,r=vt #[vi y,vi V]∧bX (Q != V) (Fs  d x y true U R) (Fs  d x y (!((Option.isNone x)==(decide (y<(0:Int))))) U R)) (bX (w==(2:Int)) (∃W:Int,cell b (nb h)=some (vi W)∧∃X:Int,cell b ((nb h).add 1)=some (vi X)∧∃Y:Int,cell b ((nb h).add 2)=some (vi Y)∧∃i:Sl,cell b ((nb h).add 3)=some (.slice i.a i.n i.c)∧∃j:Sl,cell b ((nb h).add 4)=some (.slice j.a j.n j.c)∧∃Z:Int,cell b ((nb h).add 5)=some (vi Z)∧∃aa:Int,cell b ((nb h).add 6)=some (vi aa)∧∃ab:Int,cell b ((nb h).add 7)=some (vu ab)∧∃ac:Int,cell b ((nb h).add 8)=some (vu ac)∧∃ad:Int,cell b ((nb h).add 9)=some (vu ad)∧bq PG 143 #[vp d,.agg #[vi W,vi X,vi Y,.slice i.a i.n i.c,.slice j.a j.n j.c,vi Z,vi aa,vu ab,vu ac,vu ad]] b fun r aQ=>∃ae:Bool,r=vb ae∧R (vb ae:Value) aQ) (bX (w==(6:Int)) (bE d fun aR=>∃z:Sl,cell b (aR.add 3)=some (.slice z.a z.n z.c)∧bX ((z.n:Int)==(0:Int)) (R (vb true:Value) b) (∃af:Int,cell b ((nb h).add 2)=some (vi af)∧bE d fun aS=>∃A:Sl,cell b (aS.add 3)=some (.slice A.a A.n A.c)∧∃e:Int,bq PG 21 #[vi af,vi (A.n:Int)] b (fun v h'=>v=(vi e)∧h'=b)∧bE d fun aT=>∃l:Sl,cell b (aT.add 3)=some (.slice l.a l.n l.c)∧(0≤e∧e<(l.n:Int))∧bE l.a fun aU=>∃ag:Int,cell b ((aU.add (e.toNat*2)).add 1)=some (vi ag)∧bX (decide (ag≥(0:Int))) (bE d fun aV=>∃ah:OA,cell b (aV.add 1)=some (vp ah)∧bE ah fun aW=>∃m:Sl,cell b (aW.add 2)=some (.slice m.a m.n m.c)∧bE d fun aX=>∃o:Sl,cell b (aX.add 3)=some (.slice o.a o.n o.c)∧(0≤e∧e<(o.n:Int))∧bE o.a fun aY=>∃B:Int,cell b ((aY.add (e.toNat*2)).add 1)=some (vi B)∧(0≤B∧B<(m.n:Int))∧bE m.a fun aZ=>∃K:OA,cell b (aZ.add (B.toNat*1))=some (vp K)∧bE K fun a1=>∃ai:Int,cell b (a1.add 6)=some (vi ai)∧bE K fun aj=>gZ b (aj.add 6)∧gi (fy b (aj.add 6) (vi (wrap .i64 (ai-(1:Int))))) fun ak=>bE d fun a2=>∃p:Sl,cell ak (a2.add 3)=some (.slice p.a p.n p.c)∧(0≤e∧e<(p.n:Int))∧bE p.a fun a6=>St ak ((a6.add (e.toNat*2)).add 1) (vi (-1)) fun C=>bE d fun a7=>∃al:OA,cell C a7=some (vp al)∧bE d fun a8=>∃q:Sl,cell C (a8.add 3)=some (.slice q.a q.n q.c)∧(0≤e∧e<(q.n:Int))∧bE q.a fun ba=>∃am:Int,cell C (ba.add (e.toNat*2))=some (vi am)∧bq PG 84 #[vp al,vi am] C fun r bb=>∃bc:Int,r=vi bc∧R (vb true:Value) bb) (R (vb true:Value) b))) (bE d fun bd=>∃D:Sl,cell b (bd.add 2)=some (.slice D.a D.n D.c)∧bX ((D.n:Int)==(0:Int)) (R (vb true:Value) b) (∃an:Int,cell b ((nb h).add 1)=some (vi an)∧bE d fun be=>∃E:Sl,cell b (be.add 2)=some (.slice E.a E.n E.c)∧∃g:Int,bq PG 21 #[vi an,vi (E.n:Int)] b (fun v h'=>v=(vi g)∧h'=b)∧bE d fun bf=>∃s:Sl,cell b (bf.add 2)=some (.slice s.a s.n s.c)∧(0≤g∧g<(s.n:Int))∧bE s.a fun L=>∃ao:OA,cell b (L.add (g.toNat*3))=some (vp ao)∧∃ap:Int,cell b ((L.add (g.toNat*3)).add 1)=some (vi ap)∧∃aq:Bool,cell b ((L.add (g.toNat*3)).add 2)=some (vb aq)∧gi (b.push (.cells #[vp none,vi 0,vb false] 172)) fun bg=>St bg (nb b) (vp ao) fun bh=>St bh ((nb b).add 1) (vi ap) fun bi=>St bi ((nb b).add 2) (vb aq) fun t=>∃ar:Int,cell t (nb h)=some (vi ar)∧bX (ar==(3:Int)) (∃au:OA,cell t (nb b)=some (vp au)∧bq PG 40 #[vp au] t fun r f=>r=vt #[]∧∃av:Bool,cell f ((nb b).add 2)=some (vb av)∧bX av (bE d fun bj=>∃aw:OA,cell f (bj.add 1)=some (vp aw)∧bE aw fun bk=>∃u:Sl,cell f (bk.add 2)=some (.slice u.a u.n u.c)∧∃F:Int,cell f ((nb b).add 1)=some (vi F)∧(0≤F∧F<(u.n:Int))∧bE u.a fun bl=>∃M:OA,cell f (bl.add (F.toNat*1))=some (vp M)∧bE M fun bm=>∃ax:Int,cell f (bm.add 5)=some (vi ax)∧bE M fun ay=>gZ f (ay.add 5)∧gi (fy f (ay.add 5) (vi (wrap .i64 (ax-(1:Int))))) fun bn=>H5  d g (nb b) bn R) (H5  d g (nb b) f R)) (∃az:OA,cell t (nb b)=some (vp az)∧bq PG 46 #[vp az] t fun r G=>∃k:Int,r=vu k∧∃aA:Bool,cell G ((nb b).add 2)=some (vb aA)∧bX (!aA) (R ((vb (k==(0:Int)):Value)) G) (bE d fun bo=>∃aB:OA,cell G bo=some (vp aB)∧bq PG 89 #[vp aB,vu k] G fun r N=>∃aC:Int,∃aD:Int,∃aE:Int,∃aF:Int,r=vt #[vi aC,vi aD,vi aE,vi aF]∧bX (aF != (0:Int)) (Ma  d (nb h) (nb b) k true N R) (bX (aC != (4:Int)) (Ma  d (nb h) (nb b) k true N R) (Ma  d (nb h) (nb b) k ((wrap .i64 ((wrap .i64 ((1:Int)+aD))+aE)) != (6:Int)) N R))))))))
theorem abC {a0:OA}{mq mn nF:Int}{wD wC:Sl}{wB wA wx ww wu:Int}{h:Hp}{R:RP}(hF:anA a0 mq mn nF wD wC wB wA wx ww wu h R):bq PG 99 #[vp a0,.agg #[vi mq,vi mn,vi nF,vl wD,vl wC,vi wB,vi wA,vu wx,vu ww,vu wu]] h R:=iY (lv:=ag9) Tryz.func99 hF
def JM  (e:OA) (y k:Int) (z A:Bool) (h:Hp) (R:RP):Prop:=bX A (R (vb z:Value) h) (bE e fun B=>∃p:OA,cell h B=some (vp p)∧bq PG 90 #[vp p,vu y] h fun r l=>∃q:Int,∃s:Int,r=vt #[vi q,vi s]∧bE e fun C=>∃f:Sl,cell l (C.add 4)=some (.slice f.a f.n f.c)∧gi (l.push (.cells #[vi q] 3)) fun D=>im 3 1 8 #[vi 0] f.a f.n f.c (some (nb l)) 1 D fun E F G H=>bE e fun I=>St H (I.add 4) (.slice E F G) fun b=>bE e fun m=>∃i:OA,cell b (m.add 1)=some (vp i)∧bE e fun t=>∃o:OA,cell b (t.add 1)=some (vp o)∧bE o fun u=>∃d:Sl,cell b (u.add 3)=some (.slice d.a d.n d.c)∧bE e fun J=>∃v:OA,cell b (J.add 1)=some (vp v)∧bE v fun K=>∃g:Sl,cell b (K.add 1)=some (.slice g.a g.n g.c)∧(0≤k∧k<(g.n:Int))∧bE g.a fun L=>∃w:Int,cell b (L.add (k.toNat*2))=some (vi w)∧gi (b.push (.cells #[vi w] 3)) fun j=>CS j (u.add 3) d∧CP j (t.add 1) o∧CP j (m.add 1) i∧im 3 1 8 #[vi 0] d.a d.n d.c (some (nb b)) 1 j fun M N O x=>CP x (m.add 1) i∧bE i fun P=>St x (P.add 3) (.slice M N O) fun Q=>R ((vb (s==(0:Int)):Value)) Q)
def afC(d:OA)(af ag ah:Int)(t u:Sl)(ai aj ak al am:Int)(h:Hp)(R:RP):Prop:=gi (h.push (.cells #[vi af,vi ag,vi ah,.slice t.a t.n t.c,.slice u.a u.n u.c,vi ai,vi aj,vu ak,vu al,vu am] 89)) fun b=>∃i:Int,cell b (nb h)=some (vi i)∧bX (i==(15:Int)) (bE d fun an=>∃y:OA,cell b an=some (vp y)∧bq PG 32 #[vp y] b fun r z=>r=vt #[]∧bE d fun ao=>∃A:OA,cell z ao=some (vp A)∧bq PG 41 #[vp A] z fun r e=>∃B:Int,∃C:Int,∃D:Int,∃E:Int,∃F:Int,∃G:Int,∃H:Int,∃I:Int,∃J:Int,r=.agg #[vi B,vi C,vi D,vi E,vi F,vi G,vi H,vi I,vi J]∧gi (e.push (.cells #[vi 0,vi 0,vi 0,vi 0,vi 0,vi 0,vi 0,vi 0,vi 0] 65)) fun ap=>St ap (nb e) (vi B) fun aq=>St aq ((nb e).add 1) (vi C) fun ar=>St ar ((nb e).add 2) (vi D) fun au=>St au ((nb e).add 3) (vi E) fun av=>St av ((nb e).add 4) (vi F) fun aw=>St aw ((nb e).add 5) (vi G) fun ax=>St ax ((nb e).add 6) (vi H) fun ay=>St ay ((nb e).add 7) (vi I) fun az=>St az ((nb e).add 8) (vi J) fun K=>bE d fun aA=>∃L:OA,cell K (aA.add 1)=some (vp L)∧bq PG 144 #[vp L,vi 0] K fun r f=>∃w:OA,r=vp w∧∃M:Int,cell f ((nb e).add 2)=some (vi M)∧bE w fun aB=>∃N:Int,cell f aB=some (vi N)∧bX (M==N) (∃O:Int,cell f ((nb e).add 3)=some (vi O)∧bE w fun aC=>∃P:Int,cell f (aC.add 1)=some (vi P)∧bX (O==P) (∃Q:Int,cell f ((nb e).add 5)=some (vi Q)∧∃S:Int,bq PG 145 #[vp d] f (fun v h'=>v=(vi S)∧h'=f)∧R ((vb (Q==S):Value)) f) (R (vb false:Value) f)) (R (vb false:Value) f)) (bX (i==(16:Int)) (∃T:Int,cell b ((nb h).add 5)=some (vi T)∧bq PG 146 #[vp d,vi T] b fun r U=>∃x:Int,∃m:Int,∃o:Bool,r=vt #[vu x,vi m,vb o]∧bX (!o) (JM  d x m o true U R) (JM  d x m o (m==(0:Int)) U R)) (bX (i==(17:Int)) (bE d fun aD=>∃p:Sl,cell b (aD.add 4)=some (.slice p.a p.n p.c)∧bX ((p.n:Int)==(0:Int)) (R (vb true:Value) b) (∃V:Int,cell b ((nb h).add 2)=some (vi V)∧bE d fun aE=>∃q:Sl,cell b (aE.add 4)=some (.slice q.a q.n q.c)∧∃g:Int,bq PG 21 #[vi V,vi (q.n:Int)] b (fun v h'=>v=(vi g)∧h'=b)∧bE d fun aF=>∃W:OA,cell b (aF.add 1)=some (vp W)∧bE W fun aG=>∃j:Sl,cell b (aG.add 3)=some (.slice j.a j.n j.c)∧(0≤g∧g<(j.n:Int))∧bE j.a fun aH=>∃X:Int,cell b (aH.add (g.toNat*1))=some (vi X)∧bX (decide (X>(0:Int))) (bE d fun aI=>∃Y:OA,cell b (aI.add 1)=some (vp Y)∧bE Y fun aJ=>∃k:Sl,cell b (aJ.add 3)=some (.slice k.a k.n k.c)∧(0≤g∧g<(k.n:Int))∧bE k.a fun aK=>St b (aK.add (g.toNat*1)) (vi 0) fun s=>bE d fun aL=>∃Z:OA,cell s aL=some (vp Z)∧bE d fun aM=>∃l:Sl,cell s (aM.add 4)=some (.slice l.a l.n l.c)∧(0≤g∧g<(l.n:Int))∧bE l.a fun aN=>∃aa:Int,cell s (aN.add (g.toNat*1))=some (vi aa)∧bq PG 84 #[vp Z,vi aa] s fun r aO=>∃ab:Int,r=vi ab∧R ((vb (ab==(0:Int)):Value)) aO) (R (vb true:Value) b))) (bX (i==(18:Int)) (bE d fun aP=>∃ac:OA,cell b aP=some (vp ac)∧bq PG 32 #[vp ac] b fun r aQ=>r=vt #[]∧R (vb true:Value) aQ) (bX (i==(19:Int)) (bE d fun aR=>∃ad:OA,cell b aR=some (vp ad)∧∃ae:Int,cell b ((nb h).add 5)=some (vi ae)∧bq PG 42 #[vp ad,vi ae] b fun r aS=>∃aT:Int,r=vi aT∧R (vb true:Value) aS) (R (vb true:Value) b)))))
theorem YN {a0:OA}{mq mn nF:Int}{wD wC:Sl}{wB wA wx ww wu:Int}{h:Hp}{R:RP}(hF:afC a0 mq mn nF wD wC wB wA wx ww wu h R):bq PG 100 #[vp a0,.agg #[vi mq,vi mn,vi nF,vl wD,vl wC,vi wB,vi wA,vu wx,vu ww,vu wu]] h R:=iY (lv:=kw) Tryz.func100 hF
def FF  (g:OA) (s f:Addr) (t:Int) (u:Bool) (v:Int) (h:Hp) (R:RP):Prop:=bE g fun w=>∃i:OA,cell h (w.add 1)=some (vp i)∧bE g fun x=>∃j:OA,cell h (x.add 1)=some (vp j)∧bE j fun y=>∃d:Sl,cell h (y.add 2)=some (.slice d.a d.n d.c)∧∃e:Int,cell h (s.add 1)=some (vi e)∧(0≤e∧e<(d.n:Int))∧bE d.a fun z=>∃k:OA,cell h (z.add (e.toNat*1))=some (vp k)∧∃b:Sl,cell h (f.add 3)=some (.slice b.a b.n b.c)∧∃l:Int,cell h (f.add 8)=some (vu l)∧∃m:Int,cell h (f.add 9)=some (vu m)∧bq PG 149 #[vp i,vp k,.slice b.a b.n b.c,vi t,vu l,vu m] h fun r o=>∃p:Bool,∃q:Int,r=vt #[vb p,vi q]∧bX (u==p) (R ((vb (v==q):Value)) o) (R (vb false:Value) o)
def xX  (c:OA) (d e:Addr) (f:Int) (a:Bool) (b:Int) (g:Bool) (h:Hp) (R:RP):Prop:=bX g (bX (!a) (R ((vb (b==(32:Int)):Value)) h) (R (vb false:Value) h)) (bX (decide (f<(0:Int))) (FF  c d e (0:Int) a b h R) (FF  c d e f a b h R))
def afB(q Z:OA)(aa:Int)(ab:Bool)(ac ad ae:Int)(z A:Sl)(af ag ah ai aj:Int)(h:Hp)(R:RP):Prop:=gi (h.push (.cells #[vp Z,vi aa,vb ab] 172)) fun b=>gi (b.push (.cells #[vi ac,vi ad,vi ae,.slice z.a z.n z.c,.slice A.a A.n A.c,vi af,vi ag,vu ah,vu ai,vu aj] 89)) fun d=>∃G:Int,cell d (nb b)=some (vi G)∧bX (G==(8:Int)) (∃B:OA,cell d (nb h)=some (vp B)∧∃f:Sl,cell d ((nb b).add 3)=some (.slice f.a f.n f.c)∧bq PG 59 #[.slice f.a f.n f.c] d fun r H=>∃g:Sl,r=.slice g.a g.n g.c∧CP H (nb h) B∧bq PG 49 #[vp B,.slice g.a g.n g.c] H fun r e=>∃C:Int,r=vi C∧∃I:Bool,cell e ((nb h).add 2)=some (vb I)∧bX (!I) (R ((vb (C==(61:Int)):Value)) e) (bE q fun ak=>∃J:OA,cell e (ak.add 1)=some (vp J)∧bE q fun al=>∃K:OA,cell e (al.add 1)=some (vp K)∧bE K fun am=>∃s:Sl,cell e (am.add 2)=some (.slice s.a s.n s.c)∧∃t:Int,cell e ((nb h).add 1)=some (vi t)∧(0≤t∧t<(s.n:Int))∧bE s.a fun an=>∃L:OA,cell e (an.add (t.toNat*1))=some (vp L)∧∃i:Sl,cell e ((nb b).add 3)=some (.slice i.a i.n i.c)∧bq PG 147 #[vp J,vp L,.slice i.a i.n i.c] e fun r ao=>∃M:Int,r=vi M∧R ((vb (C==M):Value)) ao)) (∃N:Int,cell d (nb b)=some (vi N)∧∃O:Int,cell d ((nb b).add 1)=some (vi O)∧∃P:Int,cell d ((nb b).add 2)=some (vi P)∧∃j:Sl,cell d ((nb b).add 3)=some (.slice j.a j.n j.c)∧∃k:Sl,cell d ((nb b).add 4)=some (.slice k.a k.n k.c)∧∃Q:Int,cell d ((nb b).add 5)=some (vi Q)∧∃S:Int,cell d ((nb b).add 6)=some (vi S)∧∃T:Int,cell d ((nb b).add 7)=some (vu T)∧∃U:Int,cell d ((nb b).add 8)=some (vu U)∧∃V:Int,cell d ((nb b).add 9)=some (vu V)∧bq PG 148 #[vp q,.agg #[vi N,vi O,vi P,.slice j.a j.n j.c,.slice k.a k.n k.c,vi Q,vi S,vu T,vu U,vu V]] d fun r l=>∃W:Int,∃u:Int,∃X:Bool,r=vt #[vu W,vi u,vb X]∧bX (!X) (R (vb false:Value) l) (∃D:OA,cell l (nb h)=some (vp D)∧∃m:Sl,cell l ((nb b).add 3)=some (.slice m.a m.n m.c)∧∃E:Int,cell l ((nb b).add 8)=some (vu E)∧∃F:Int,cell l ((nb b).add 9)=some (vu F)∧bq PG 59 #[.slice m.a m.n m.c] l fun r v=>∃o:Sl,r=.slice o.a o.n o.c∧CI .u64 v ((nb b).add 9) F∧CI .u64 v ((nb b).add 8) E∧CP v (nb h) D∧bq PG 48 #[vp D,.slice o.a o.n o.c,vu W,vu E,vu F] v fun r p=>∃w:Bool,∃x:Int,r=vt #[vb w,vi x]∧∃Y:Bool,cell p ((nb h).add 2)=some (vb Y)∧bX (!Y) (bX (!w) (R ((vb (x==(61:Int)):Value)) p) (R (vb false:Value) p)) (bX (decide (u<(0:Int))) (∃y:Sl,cell p ((nb b).add 3)=some (.slice y.a y.n y.c)∧xX  q (nb h) (nb b) u w x (decide ((y.n:Int)≤(4096:Int))) p R) (xX  q (nb h) (nb b) u w x false p R))))
theorem YM {a0 mq:OA}{mn:Int}{nF:Bool}{AF AE AD:Int}{AC AB:Sl}{AA Az Ay Ax Aw:Int}{h:Hp}{R:RP}(hF:afB a0 mq mn nF AF AE AD AC AB AA Az Ay Ax Aw h R):bq PG 101 #[vp a0,.agg #[vp mq,vi mn,vb nF],.agg #[vi AF,vi AE,vi AD,vl AC,vl AB,vi AA,vi Az,vu Ay,vu Ax,vu Aw]] h R:=iY (lv:=kw) Tryz.func101 hF
def afA(A J:OA)(K:Int)(L:Bool)(M N O:Int)(v w:Sl)(P Q S T U:Int)(h:Hp)(R:RP):Prop:=gi (h.push (.cells #[vp J,vi K,vb L] 172)) fun x=>gi (x.push (.cells #[vi M,vi N,vi O,.slice v.a v.n v.c,.slice w.a w.n w.c,vi P,vi Q,vu S,vu T,vu U] 89)) fun y=>∃z:OA,cell y (nb h)=some (vp z)∧∃f:Sl,cell y ((nb x).add 3)=some (.slice f.a f.n f.c)∧bq PG 59 #[.slice f.a f.n f.c] y fun r B=>∃g:Sl,r=.slice g.a g.n g.c∧CP B (nb h) z∧bq PG 28 #[vp z,.slice g.a g.n g.c] B fun r d=>∃p:Int,∃q:Int,∃s:Int,∃t:Int,r=vt #[vu p,vu q,vu s,vi t]∧∃C:Bool,cell d ((nb h).add 2)=some (vb C)∧bX (!C) (bX (p==(0:Int)) (bX (q==(0:Int)) (bX (s==(0:Int)) (R ((vb (t==(61:Int)):Value)) d) (R (vb false:Value) d)) (R (vb false:Value) d)) (R (vb false:Value) d)) (bE A fun V=>∃D:OA,cell d (V.add 1)=some (vp D)∧bE D fun W=>∃j:Sl,cell d (W.add 2)=some (.slice j.a j.n j.c)∧∃u:Int,cell d ((nb h).add 1)=some (vi u)∧(0≤u∧u<(j.n:Int))∧bE j.a fun X=>∃k:OA,cell d (X.add (u.toNat*1))=some (vp k)∧∃i:Sl,cell d ((nb x).add 3)=some (.slice i.a i.n i.c)∧bq PG 150 #[vp k,.slice i.a i.n i.c] d fun r b=>∃e:Int,∃E:Bool,r=vt #[vi e,vb E]∧bX (!E) (bX (p==(0:Int)) (bX (q==(0:Int)) (bX (s==(0:Int)) (R ((vb (t==(63:Int)):Value)) b) (R (vb false:Value) b)) (R (vb false:Value) b)) (R (vb false:Value) b)) (bX (t==(0:Int)) (bE k fun Y=>∃l:Sl,cell b (Y.add 1)=some (.slice l.a l.n l.c)∧(0≤e∧e<(l.n:Int))∧bE l.a fun Z=>∃F:Int,cell b ((Z.add (e.toNat*5)).add 3)=some (vu F)∧bX (q==F) (bE k fun aa=>∃m:Sl,cell b (aa.add 1)=some (.slice m.a m.n m.c)∧(0≤e∧e<(m.n:Int))∧bE m.a fun ab=>∃G:Int,cell b ((ab.add (e.toNat*5)).add 4)=some (vu G)∧bX (s==G) (bE k fun ac=>∃o:Sl,cell b (ac.add 1)=some (.slice o.a o.n o.c)∧(0≤e∧e<(o.n:Int))∧bE o.a fun ad=>∃H:Int,cell b ((ad.add (e.toNat*5)).add 2)=some (vi H)∧bq PG 151 #[vp A,vu p,vi H] b fun r ae=>∃I:Bool,r=vb I∧R (vb I:Value) ae) (R (vb false:Value) b)) (R (vb false:Value) b)) (R (vb false:Value) b)))
theorem YL {a0 mq:OA}{mn:Int}{nF:Bool}{AF AE AD:Int}{AC AB:Sl}{AA Az Ay Ax Aw:Int}{h:Hp}{R:RP}(hF:afA a0 mq mn nF AF AE AD AC AB AA Az Ay Ax Aw h R):bq PG 102 #[vp a0,.agg #[vp mq,vi mn,vb nF],.agg #[vi AF,vi AE,vi AD,vl AC,vl AB,vi AA,vi Az,vu Ay,vu Ax,vu Aw]] h R:=iY (lv:=kw) Tryz.func102 hF
def JJ  (b d:Sl) (h:Hp) (R:RP):Prop:=bq PG 25 #[.slice b.a b.n b.c,.slice d.a d.n d.c] h fun r f=>∃e:Bool,r=vb e∧R (vb e:Value) f
def JK  (f:Addr) (e b:Sl) (g:Bool) (h:Hp) (R:RP):Prop:=bX g (∃d:Int,cell h (f.add 5)=some (vi d)∧(0≤d∧d≤(b.c:Int))∧(0≤(0:Int)∧(0:Int)≤d)∧JJ  e ⟨if b.c=(0:Int).toNat then b.a else Option.map (fun x=>x.add ((0:Int).toNat*1)) b.a,d.toNat-(0:Int).toNat,b.c-(0:Int).toNat⟩ h R) (JJ  e b h R)
def JL  (o b:Addr) (k:OA) (h:Hp) (R:RP):Prop:=∃p:Int,cell h b=some (vi p)∧bX (p==(10:Int)) (∃s:OA,cell h o=some (vp s)∧∃t:Int,cell h (b.add 7)=some (vu t)∧∃u:Int,cell h (b.add 5)=some (vi u)∧bq PG 30 #[vp s,vu t,vi u] h fun r q=>∃v:Int,∃d:Sl,r=vt #[vu v,.slice d.a d.n d.c]∧∃w:Int,cell q (b.add 7)=some (vu w)∧∃x:Int,cell q (b.add 5)=some (vi x)∧bq PG 152 #[vp k,vu w,vi x] q fun r y=>∃z:Int,∃e:Sl,r=vt #[vu z,.slice e.a e.n e.c]∧bX (v==z) (bq PG 25 #[.slice d.a d.n d.c,.slice e.a e.n e.c] y fun r I=>∃A:Bool,r=vb A∧R (vb A:Value) I) (R (vb false:Value) y)) (bX (p==(11:Int)) (∃B:OA,cell h o=some (vp B)∧bq PG 26 #[vp B] h fun r J=>∃f:Sl,r=.slice f.a f.n f.c∧bq PG 153 #[vp k] J fun r K=>∃g:Sl,r=.slice g.a g.n g.c∧bq PG 25 #[.slice f.a f.n f.c,.slice g.a g.n g.c] K fun r L=>∃C:Bool,r=vb C∧R (vb C:Value) L) (∃D:OA,cell h o=some (vp D)∧∃E:Int,cell h (b.add 5)=some (vi E)∧bq PG 33 #[vp D,vi E] h fun r F=>∃j:Sl,r=.slice j.a j.n j.c∧bE k fun M=>∃l:Sl,cell F (M.add 1)=some (.slice l.a l.n l.c)∧bq PG 152 #[vp k,vu 0,vi (l.n:Int)] F fun r m=>∃N:Int,∃i:Sl,r=vt #[vu N,.slice i.a i.n i.c]∧∃G:Int,cell m (b.add 5)=some (vi G)∧bX (decide (G≥(0:Int))) (∃H:Int,cell m (b.add 5)=some (vi H)∧JK  b j i (decide (H<(i.n:Int))) m R) (JK  b j i false m R)))
def afz(o p:OA)(q:Int)(r:Bool)(s t u:Int)(f g:Sl)(v w x y z:Int)(h:Hp)(R:RP):Prop:=gi (h.push (.cells #[vp p,vi q,vb r] 172)) fun i=>gi (i.push (.cells #[vi s,vi t,vi u,.slice f.a f.n f.c,.slice g.a g.n g.c,vi v,vi w,vu x,vu y,vu z] 89)) fun j=>gi (j.push (.cells #[vu 0,.slice none 0 0,vi 0,vi 0,vi 0,vi 0,vi 0] 221)) fun b=>∃k:Bool,cell b ((nb h).add 2)=some (vb k)∧bX k (bE o fun A=>∃l:OA,cell b (A.add 1)=some (vp l)∧bE l fun B=>∃d:Sl,cell b (B.add 2)=some (.slice d.a d.n d.c)∧∃e:Int,cell b ((nb h).add 1)=some (vi e)∧(0≤e∧e<(d.n:Int))∧bE d.a fun C=>∃m:OA,cell b (C.add (e.toNat*1))=some (vp m)∧JL  (nb h) (nb i) m b R) (JL  (nb h) (nb i) (some (nb j)) b R)
theorem YK {a0 mq:OA}{mn:Int}{nF:Bool}{AF AE AD:Int}{AC AB:Sl}{AA Az Ay Ax Aw:Int}{h:Hp}{R:RP}(hF:afz a0 mq mn nF AF AE AD AC AB AA Az Ay Ax Aw h R):bq PG 103 #[vp a0,.agg #[vp mq,vi mn,vb nF],.agg #[vi AF,vi AE,vi AD,vl AC,vl AB,vi AA,vi Az,vu Ay,vu Ax,vu Aw]] h R:=iY (lv:=kw) Tryz.func103 hF
def Cm  (g D:Addr) (e:OA) (h:Hp) (R:RP):Prop:=∃j:Int,cell h D=some (vi j)∧bX (j==(13:Int)) (∃k:OA,cell h g=some (vp k)∧bq PG 47 #[vp k] h fun r E=>∃l:Bool,r=vb l∧bq PG 154 #[vp e] E fun r F=>∃m:Bool,r=vb m∧R ((vb (l==m):Value)) F) (∃o:OA,cell h g=some (vp o)∧bq PG 44 #[vp o] h fun r d=>∃p:Int,∃q:Int,∃s:Int,∃t:Int,r=.agg #[vi p,vi q,vi s,vi t]∧gi (d.push (.cells #[vi 0,vi 0,vi 0,vi 0] 70)) fun G=>St G (nb d) (vi p) fun H=>St H ((nb d).add 1) (vi q) fun I=>St I ((nb d).add 2) (vi s) fun J=>St J ((nb d).add 3) (vi t) fun u=>∃v:OA,cell u g=some (vp v)∧bq PG 24 #[vp v] u fun r b=>∃i:Int,r=vi i∧bE e fun K=>∃f:Sl,cell b (K.add 1)=some (.slice f.a f.n f.c)∧bX (i==(f.n:Int)) (∃w:Int,cell b (nb d)=some (vi w)∧bX (w==i) (∃x:Int,cell b ((nb d).add 1)=some (vi x)∧bE e fun L=>∃y:Int,cell b (L.add 2)=some (vi y)∧bX (x==y) (∃z:Int,cell b ((nb d).add 2)=some (vi z)∧bE e fun M=>∃A:Int,cell b (M.add 3)=some (vi A)∧bX (z==A) (∃B:Int,cell b ((nb d).add 3)=some (vi B)∧bE e fun N=>∃C:Int,cell b (N.add 4)=some (vi C)∧R ((vb (B==C):Value)) b) (R (vb false:Value) b)) (R (vb false:Value) b)) (R (vb false:Value) b)) (R (vb false:Value) b))
def afy(o p:OA)(q:Int)(r:Bool)(s t u:Int)(f g:Sl)(v w x y z:Int)(h:Hp)(R:RP):Prop:=gi (h.push (.cells #[vp p,vi q,vb r] 172)) fun i=>gi (i.push (.cells #[vi s,vi t,vi u,.slice f.a f.n f.c,.slice g.a g.n g.c,vi v,vi w,vu x,vu y,vu z] 89)) fun j=>gi (j.push (.cells #[vu 0,.slice none 0 0,vi 0,vi 0,vi 0,vi 0,vi 0] 221)) fun b=>∃k:Bool,cell b ((nb h).add 2)=some (vb k)∧bX k (bE o fun A=>∃l:OA,cell b (A.add 1)=some (vp l)∧bE l fun B=>∃d:Sl,cell b (B.add 2)=some (.slice d.a d.n d.c)∧∃e:Int,cell b ((nb h).add 1)=some (vi e)∧(0≤e∧e<(d.n:Int))∧bE d.a fun C=>∃m:OA,cell b (C.add (e.toNat*1))=some (vp m)∧Cm  (nb h) (nb i) m b R) (Cm  (nb h) (nb i) (some (nb j)) b R)
theorem YJ {a0 mq:OA}{mn:Int}{nF:Bool}{AF AE AD:Int}{AC AB:Sl}{AA Az Ay Ax Aw:Int}{h:Hp}{R:RP}(hF:afy a0 mq mn nF AF AE AD AC AB AA Az Ay Ax Aw h R):bq PG 104 #[vp a0,.agg #[vp mq,vi mn,vb nF],.agg #[vi AF,vi AE,vi AD,vl AC,vl AB,vi AA,vi Az,vu Ay,vu Ax,vu Aw]] h R:=iY (lv:=kw) Tryz.func104 hF
def afc(d:OA)(ap aq ar:Int)(B C:Sl)(au av aw ax ay:Int)(h:Hp)(R:RP):Prop:=gi (h.push (.cells #[vi ap,vi aq,vi ar,.slice B.a B.n B.c,.slice C.a C.n C.c,vi au,vi av,vu aw,vu ax,vu ay] 89)) fun b=>∃u:Int,cell b ((nb h).add 6)=some (vi u)∧bX (u==(0:Int)) (bE d fun az=>∃w:Sl,cell b (az.add 2)=some (.slice w.a w.n w.c)∧bX ((w.n:Int)==(0:Int)) (R (vb true:Value) b) (bE d fun K=>∃l:Sl,cell b (K.add 2)=some (.slice l.a l.n l.c)∧∃x:Int,cell b ((nb h).add 1)=some (vi x)∧bE d fun L=>∃m:Sl,cell b (L.add 2)=some (.slice m.a m.n m.c)∧∃e:Int,bq PG 21 #[vi x,vi (m.n:Int)] b (fun v h'=>v=(vi e)∧h'=b)∧(0≤e∧e<(l.n:Int))∧bE l.a fun o=>∃D:OA,cell b (o.add (e.toNat*3))=some (vp D)∧∃E:Int,cell b ((o.add (e.toNat*3)).add 1)=some (vi E)∧∃F:Bool,cell b ((o.add (e.toNat*3)).add 2)=some (vb F)∧gi (b.push (.cells #[vp none,vi 0,vb false] 172)) fun f=>(∃s:OA,cell f (o.add (e.toNat*3))=some (vp s)∧∃t:Int,cell f ((o.add (e.toNat*3)).add 1)=some (vi t)∧∃M:Bool,cell f ((o.add (e.toNat*3)).add 2)=some (vb M)∧Next.value (.agg #[vp s,vi t,vb M])=Next.value (.agg #[vp D,vi E,vb F]))∧(bq PG 21 #[vi x,vi (m.n:Int)] f fun v h'=>v=vi e∧h'=f)∧CS f (L.add 2) m∧CI .i64 f ((nb h).add 1) x∧CS f (K.add 2) l∧St f (nb b) (vp D) fun aA=>St aA ((nb b).add 1) (vi E) fun aB=>St aB ((nb b).add 2) (vb F) fun i=>∃N:Bool,cell i ((nb b).add 2)=some (vb N)∧bX (!N) (∃O:OA,cell i (nb b)=some (vp O)∧bq PG 46 #[vp O] i fun r aC=>∃P:Int,r=vu P∧bq PG 188 #[vp d,vu P,vi (-1)] aC fun r aD=>∃Q:Bool,r=vb Q∧R (vb Q:Value) aD) (∃S:OA,cell i (nb b)=some (vp S)∧∃T:Int,bq PG 46 #[vp S] i (fun v h'=>v=(vu T)∧h'=i)∧∃U:Int,cell i ((nb b).add 1)=some (vi U)∧bq PG 188 #[vp d,vu T,vi U] i fun r aE=>∃V:Bool,r=vb V∧R (vb V:Value) aE))) (bX (u==(1:Int)) (bE d fun aF=>∃y:Sl,cell b (aF.add 3)=some (.slice y.a y.n y.c)∧bX ((y.n:Int)==(0:Int)) (R (vb true:Value) b) (bE d fun W=>∃p:Sl,cell b (W.add 3)=some (.slice p.a p.n p.c)∧∃z:Int,cell b ((nb h).add 2)=some (vi z)∧bE d fun X=>∃q:Sl,cell b (X.add 3)=some (.slice q.a q.n q.c)∧∃j:Int,bq PG 21 #[vi z,vi (q.n:Int)] b (fun v h'=>v=(vi j)∧h'=b)∧(0≤j∧j<(p.n:Int))∧bE p.a fun A=>∃G:Int,cell b (A.add (j.toNat*2))=some (vi G)∧∃H:Int,cell b ((A.add (j.toNat*2)).add 1)=some (vi H)∧gi (b.push (.cells #[vi 0,vi 0] 218)) fun k=>(∃s:Int,cell k (A.add (j.toNat*2))=some (vi s)∧∃t:Int,cell k ((A.add (j.toNat*2)).add 1)=some (vi t)∧Next.value (.agg #[vi s,vi t])=Next.value (.agg #[vi G,vi H]))∧(bq PG 21 #[vi z,vi (q.n:Int)] k fun v h'=>v=vi j∧h'=k)∧CS k (X.add 3) q∧CI .i64 k ((nb h).add 2) z∧CS k (W.add 3) p∧St k (nb b) (vi G) fun aG=>St aG ((nb b).add 1) (vi H) fun g=>∃Y:Int,cell g ((nb b).add 1)=some (vi Y)∧bX (decide (Y<(0:Int))) (R (vb true:Value) g) (bE d fun aH=>∃Z:OA,cell g aH=some (vp Z)∧∃aa:Int,cell g (nb b)=some (vi aa)∧∃ab:Int,∃ac:Int,bq PG 91 #[vp Z,vi aa] g (fun v h'=>v=(vt #[vu ab,vi ac])∧h'=g)∧bX (ac==(0:Int)) (∃ad:Int,cell g ((nb b).add 1)=some (vi ad)∧bq PG 188 #[vp d,vu ab,vi ad] g fun r aI=>∃ae:Bool,r=vb ae∧R (vb ae:Value) aI) (R (vb false:Value) g)))) (bX (u==(2:Int)) (∃af:Int,cell b ((nb h).add 5)=some (vi af)∧bq PG 146 #[vp d,vi af] b fun r I=>∃ag:Int,∃ah:Int,∃ai:Bool,r=vt #[vu ag,vi ah,vb ai]∧bX ai (bX (ah==(0:Int)) (R (vb true:Value) I) (bq PG 188 #[vp d,vu ag,vi (-1)] I fun r aJ=>∃aj:Bool,r=vb aj∧R (vb aj:Value) aJ)) (R (vb false:Value) I)) (bE d fun aK=>∃ak:OA,cell b aK=some (vp ak)∧∃al:Int,cell b ((nb h).add 7)=some (vu al)∧bq PG 89 #[vp ak,vu al] b fun r J=>∃am:Int,∃aL:Int,∃aM:Int,∃aN:Int,r=vt #[vi am,vi aL,vi aM,vi aN]∧bX (am==(4:Int)) (R (vb true:Value) J) (∃an:Int,cell J ((nb h).add 7)=some (vu an)∧bq PG 188 #[vp d,vu an,vi (-1)] J fun r aO=>∃ao:Bool,r=vb ao∧R (vb ao:Value) aO))))
theorem Yj {a0:OA}{mq mn nF:Int}{wD wC:Sl}{wB wA wx ww wu:Int}{h:Hp}{R:RP}(hF:afc a0 mq mn nF wD wC wB wA wx ww wu h R):bq PG 143 #[vp a0,.agg #[vi mq,vi mn,vi nF,vl wD,vl wC,vi wB,vi wA,vu wx,vu ww,vu wu]] h R:=iY (lv:=kw) Tryz.func143 hF
def Be(m:Nat):LN:=if m=3 then [0,3,4]else if m=8 then [0,3,5]else if m=13 then [0,3,6]else []
def JA(J1:Nat→OA→Int→Int→Hp→Prop)(n1:Nat)(a:OA)(b c:Int)(h:Hp)(R:RP):Prop:=∃m,m<n1∧J1 m a b (wrap .i64 (c+(1:Int))) h
def Ph(J2:Nat→OA→Int→Int→Hp→Prop)(n2:Nat)(a:OA)(b c:Int)(h:Hp)(R:RP):Prop:=∃m,m<n2∧J2 m a b (wrap .i64 (c+(1:Int))) h
def Pg(J3:Nat→OA→Int→Int→Hp→Prop)(n3:Nat)(a:OA)(b c:Int)(h:Hp)(R:RP):Prop:=∃m,m<n3∧J3 m a b (wrap .i64 (c+(1:Int))) h
abbrev Yf(R:RP)(a:OA)(b c:Int)(d:Hp):Prop:=dO (kJ PG fN Be (sub [1,1,1,0,1,0,0] (bd Tryz.f145))) (dW PG fN Be [1,1,1,0,1,0] (bd Tryz.f145) [] (eJ PG Tryz.f145 [] R)) [(0,vp a),(3,vi b),(5,vi c)] 72 d
def Pf(J1:Nat→OA→Int→Int→Hp→Prop)(n1:Nat)(d:OA)(i b:Int)(g:Nat→Value)(h:Hp)(R:RP):Prop:=bE d fun k=>∃f:Sl,cell h (k.add 2)=some (.slice f.a f.n f.c)∧bX (decide (b<(f.n:Int))) (bE d fun l=>∃e:Sl,cell h (l.add 2)=some (.slice e.a e.n e.c)∧(0≤b∧b<(e.n:Int))∧bE e.a fun m=>∃j:Bool,cell h ((m.add (b.toNat*3)).add 2)=some (vb j)∧bX j (JA J1 n1 d (wrap .i64 (i+(1:Int))) b h R) (JA J1 n1 d i b h R)) (Yf R d i 0 h)
abbrev aiB(R:RP)(a:OA)(b c:Int)(d:Hp):Prop:=dO (kJ PG fN Be (sub [1,1,0,1,0,0] (bd Tryz.f145))) (dW PG fN Be [1,1,0,1,0] (bd Tryz.f145) [] (eJ PG Tryz.f145 [] R)) [(0,vp a),(3,vi b),(4,vi c)] 72 d
theorem Mx {R:RP}{s0:OA}{s3 s4:Int}{h0:Hp}(J:Nat→OA→Int→Int→Hp→Prop)(n0:Nat)(hi:J n0 s0 s3 s4 h0)(hr:∀n s0 s3 s4 g h,J n s0 s3 s4 h→Pf  J n s0 s3 s4 g h R):aiB R s0 s3 s4 h0:=iz (l:=[(0,.p),(3,.i .i64),(4,.i .i64)]) (J:=J) (n0:=n0) (s0,s3,s4,()) hi (fun n s0 s3 s4 g h=>Pf  J n s0 s3 s4 g h R) hr
abbrev Ye(R:RP)(a:OA)(b c:Int)(d:Hp):Prop:=dO (kJ PG fN Be (sub [1,1,1,1,0,1,0,0] (bd Tryz.f145))) (dW PG fN Be [1,1,1,1,0,1,0] (bd Tryz.f145) [] (eJ PG Tryz.f145 [] R)) [(0,vp a),(3,vi b),(6,vi c)] 72 d
def Pe(J2:Nat→OA→Int→Int→Hp→Prop)(n2:Nat)(d:OA)(i b:Int)(g:Nat→Value)(h:Hp)(R:RP):Prop:=bE d fun k=>∃f:Sl,cell h (k.add 3)=some (.slice f.a f.n f.c)∧bX (decide (b<(f.n:Int))) (bE d fun l=>∃e:Sl,cell h (l.add 3)=some (.slice e.a e.n e.c)∧(0≤b∧b<(e.n:Int))∧bE e.a fun m=>∃j:Int,cell h ((m.add (b.toNat*2)).add 1)=some (vi j)∧bX (decide (j≥(0:Int))) (Ph J2 n2 d (wrap .i64 (i+(1:Int))) b h R) (Ph J2 n2 d i b h R)) (Ye R d i 0 h)
theorem Mw {R:RP}{s0:OA}{s3 s5:Int}{h0:Hp}(J:Nat→OA→Int→Int→Hp→Prop)(n0:Nat)(hi:J n0 s0 s3 s5 h0)(hr:∀n s0 s3 s5 g h,J n s0 s3 s5 h→Pe  J n s0 s3 s5 g h R):Yf R s0 s3 s5 h0:=iz (l:=[(0,.p),(3,.i .i64),(5,.i .i64)]) (J:=J) (n0:=n0) (s0,s3,s5,()) hi (fun n s0 s3 s5 g h=>Pe  J n s0 s3 s5 g h R) hr
def Pd(J3:Nat→OA→Int→Int→Hp→Prop)(n3:Nat)(e:OA)(i b:Int)(g:Nat→Value)(h:Hp)(R:RP):Prop:=bE e fun m=>∃j:OA,cell h (m.add 1)=some (vp j)∧bE j fun o=>∃f:Sl,cell h (o.add 3)=some (.slice f.a f.n f.c)∧bX (decide (b<(f.n:Int))) (bE e fun p=>∃k:OA,cell h (p.add 1)=some (vp k)∧bE k fun q=>∃d:Sl,cell h (q.add 3)=some (.slice d.a d.n d.c)∧(0≤b∧b<(d.n:Int))∧bE d.a fun r=>∃l:Int,cell h (r.add (b.toNat*1))=some (vi l)∧bX (decide (l>(0:Int))) (Pg J3 n3 e (wrap .i64 (i+(1:Int))) b h R) (Pg J3 n3 e i b h R)) (R (vi i:Value) h)
theorem Mv {R:RP}{s0:OA}{s3 s6:Int}{h0:Hp}(J:Nat→OA→Int→Int→Hp→Prop)(n0:Nat)(hi:J n0 s0 s3 s6 h0)(hr:∀n s0 s3 s6 g h,J n s0 s3 s6 h→Pd  J n s0 s3 s6 g h R):Ye R s0 s3 s6 h0:=iz (l:=[(0,.p),(3,.i .i64),(6,.i .i64)]) (J:=J) (n0:=n0) (s0,s3,s6,()) hi (fun n s0 s3 s6 g h=>Pd  J n s0 s3 s6 g h R) hr
def afa(a:OA)(h:Hp)(R:RP):Prop:=dO (kJ PG fN Be (sub [1,1,0,1,0,0] (bd Tryz.f145))) (dW PG fN Be [1,1,0,1,0] (bd Tryz.f145) [] (eJ PG Tryz.f145 [] R)) [(0,vp a),(3,vi 0),(4,vi 0)] 72 h
theorem Yd {a0:OA}{h:Hp}{R:RP}(hF:afa a0 h R):bq PG 145 #[vp a0] h R:=iY (lv:=Be) Tryz.func145 hF
def ae9(b:OA)(F:Int)(h:Hp)(R:RP):Prop:=bq PG 21 #[vi F,vi 399] h fun r t=>∃i:Int,r=vi i∧bE b fun G=>∃u:OA,cell t (G.add 1)=some (vp u)∧bq PG 190 #[vp u,vi (wrap .i64 ((2:Int)+i))] t fun r v=>∃w:Bool,r=vb w∧bE b fun H=>∃x:OA,cell v H=some (vp x)∧bq PG 96 #[vp x,vi 200,vi 0,vi (wrap .i64 ((wrap .i64 ((2:Int)+i))-(1:Int)))] v fun r e=>∃m:Int,∃o:Int,r=vt #[vu m,vi o]∧bX (!w) (R ((vt #[vu 0,vi 0,vb (o==(31:Int))]:Value)) e) (bX (o != (0:Int)) (R (vt #[vu 0,vi 0,vb false]:Value) e) (bE b fun I=>∃y:OA,cell e (I.add 1)=some (vp y)∧bE y fun J=>∃f:Sl,cell e (J.add 1)=some (.slice f.a f.n f.c)∧bE b fun K=>∃z:OA,cell e K=some (vp z)∧bq PG 92 #[vp z,vu m,vi 0,vu (wrap .u64 ((wrap .u64 (f.n:Int))*(1000003:Int)))] e fun r g=>∃A:Int,r=vi A∧bE b fun p=>∃j:OA,cell g (p.add 1)=some (vp j)∧bE b fun B=>∃q:OA,cell g (B.add 1)=some (vp q)∧bE q fun C=>∃d:Sl,cell g (C.add 1)=some (.slice d.a d.n d.c)∧gi (g.push (.cells #[vi (wrap .i64 ((2:Int)+i)),vu (wrap .u64 ((wrap .u64 (f.n:Int))*(1000003:Int)))] 230)) fun k=>CS k (C.add 1) d∧CP k (B.add 1) q∧CP k (p.add 1) j∧im 230 2 16 #[vi 0,vu 0] d.a d.n d.c (some (nb g)) 1 k fun L M N D=>CP D (p.add 1) j∧bE j fun O=>St D (O.add 1) (.slice L M N) fun s=>bE b fun P=>∃E:OA,cell s (P.add 1)=some (vp E)∧bE E fun Q=>∃l:Sl,cell s (Q.add 1)=some (.slice l.a l.n l.c)∧R ((vt #[vu m,vi (wrap .i64 ((l.n:Int)-(1:Int))),vb (A==(0:Int))]:Value)) s))
theorem Yc {a0:OA}{a1:Int}{h:Hp}{R:RP}(hF:ae9 a0 a1 h R):bq PG 146 #[vp a0,vi a1] h R:=iY (lv:=kw) Tryz.func146 hF
def Ck  (b:Addr) (c:Bool) (h:Hp) (R:RP):Prop:=bX c (R (vt #[vu 0,vi 0,vb true]:Value) h) (∃a:Int,cell h (b.add 7)=some (vu a)∧R ((vt #[vu a,vi (-1),vb true]:Value)) h)
def ae7(o:OA)(ab ac ad:Int)(z A:Sl)(ae af ag ah ai:Int)(h:Hp)(R:RP):Prop:=gi (h.push (.cells #[vi ab,vi ac,vi ad,.slice z.a z.n z.c,.slice A.a A.n A.c,vi ae,vi af,vu ag,vu ah,vu ai] 89)) fun b=>∃t:Int,cell b ((nb h).add 6)=some (vi t)∧bX (t==(0:Int)) (R (vt #[vu 0,vi 0,vb true]:Value) b) (bX (t==(1:Int)) (∃I:Int,cell b ((nb h).add 5)=some (vi I)∧bq PG 146 #[vp o,vi I] b fun r aj=>∃J:Int,∃K:Int,∃L:Bool,r=vt #[vu J,vi K,vb L]∧R (vt #[vu J,vi K,vb L]:Value) aj) (bX (t==(2:Int)) (bE o fun M=>∃f:Sl,cell b (M.add 2)=some (.slice f.a f.n f.c)∧∃u:Int,cell b ((nb h).add 2)=some (vi u)∧bE o fun N=>∃g:Sl,cell b (N.add 2)=some (.slice g.a g.n g.c)∧∃d:Int,bq PG 21 #[vi u,vi (g.n:Int)] b (fun v h'=>v=(vi d)∧h'=b)∧(0≤d∧d<(f.n:Int))∧bE f.a fun i=>∃B:OA,cell b (i.add (d.toNat*3))=some (vp B)∧∃C:Int,cell b ((i.add (d.toNat*3)).add 1)=some (vi C)∧∃D:Bool,cell b ((i.add (d.toNat*3)).add 2)=some (vb D)∧gi (b.push (.cells #[vp none,vi 0,vb false] 172)) fun e=>(∃O:OA,cell e (i.add (d.toNat*3))=some (vp O)∧∃P:Int,cell e ((i.add (d.toNat*3)).add 1)=some (vi P)∧∃Q:Bool,cell e ((i.add (d.toNat*3)).add 2)=some (vb Q)∧Next.value (.agg #[vp O,vi P,vb Q])=Next.value (.agg #[vp B,vi C,vb D]))∧(bq PG 21 #[vi u,vi (g.n:Int)] e fun v h'=>v=vi d∧h'=e)∧CS e (N.add 2) g∧CI .i64 e ((nb h).add 2) u∧CS e (M.add 2) f∧St e (nb b) (vp B) fun ak=>St ak ((nb b).add 1) (vi C) fun al=>St al ((nb b).add 2) (vb D) fun p=>∃S:Bool,cell p ((nb b).add 2)=some (vb S)∧bX (!S) (R (vt #[vu 0,vi 0,vb true]:Value) p) (∃E:OA,cell p (nb b)=some (vp E)∧∃j:Sl,cell p ((nb h).add 4)=some (.slice j.a j.n j.c)∧bq PG 59 #[.slice j.a j.n j.c] p fun r T=>∃k:Sl,r=.slice k.a k.n k.c∧CP T (nb b) E∧bq PG 28 #[vp E,.slice k.a k.n k.c] T fun r l=>∃F:Int,∃am:Int,∃an:Int,∃ao:Int,r=vt #[vu F,vu am,vu an,vi ao]∧bE o fun ap=>∃U:OA,cell l (ap.add 1)=some (vp U)∧bE U fun aq=>∃q:Sl,cell l (aq.add 2)=some (.slice q.a q.n q.c)∧∃w:Int,cell l ((nb b).add 1)=some (vi w)∧(0≤w∧w<(q.n:Int))∧bE q.a fun ar=>∃G:OA,cell l (ar.add (w.toNat*1))=some (vp G)∧∃m:Sl,cell l ((nb h).add 4)=some (.slice m.a m.n m.c)∧bq PG 150 #[vp G,.slice m.a m.n m.c] l fun r x=>∃y:Int,∃V:Bool,r=vt #[vi y,vb V]∧bX (!V) (R ((vt #[vu 0,vi 0,vb (F==(0:Int))]:Value)) x) (bE G fun au=>∃s:Sl,cell x (au.add 1)=some (.slice s.a s.n s.c)∧(0≤y∧y<(s.n:Int))∧bE s.a fun av=>∃W:Int,cell x ((av.add (y.toNat*5)).add 2)=some (vi W)∧R (vt #[vu F,vi W,vb true]:Value) x))) (bE o fun aw=>∃X:OA,cell b aw=some (vp X)∧∃Y:Int,cell b ((nb h).add 7)=some (vu Y)∧bq PG 89 #[vp X,vu Y] b fun r H=>∃ax:Int,∃ay:Int,∃az:Int,∃Z:Int,r=vt #[vi ax,vi ay,vi az,vi Z]∧∃aa:Int,cell H ((nb h).add 7)=some (vu aa)∧bX (aa==(0:Int)) (Ck  (nb h) true H R) (Ck  (nb h) (Z==(0:Int)) H R))))
theorem Ya {a0:OA}{mq mn nF:Int}{wD wC:Sl}{wB wA wx ww wu:Int}{h:Hp}{R:RP}(hF:ae7 a0 mq mn nF wD wC wB wA wx ww wu h R):bq PG 148 #[vp a0,.agg #[vi mq,vi mn,vi nF,vl wD,vl wC,vi wB,vi wA,vu wx,vu ww,vu wu]] h R:=iY (lv:=kw) Tryz.func148 hF
def ae4(g:OA)(i d:Int)(h:Hp)(R:RP):Prop:=bX (d==(0:Int)) (R ((vb (i==(0:Int)):Value)) h) (bE g fun y=>∃j:OA,cell h y=some (vp j)∧bq PG 89 #[vp j,vu i] h fun r k=>∃l:Int,∃m:Int,∃o:Int,∃p:Int,r=vt #[vi l,vi m,vi o,vi p]∧bE g fun z=>∃q:OA,cell k z=some (vp q)∧bq PG 72 #[vp q,vu i,vi 0] k fun r b=>∃s:Int,∃t:Int,r=vt #[vu s,vi t]∧bX (p==(0:Int)) (bX (t==(0:Int)) (bX (l==(200:Int)) (bX (m==(0:Int)) (bE g fun A=>∃u:OA,cell b (A.add 1)=some (vp u)∧bE u fun B=>∃e:Sl,cell b (B.add 1)=some (.slice e.a e.n e.c)∧(0≤d∧d<(e.n:Int))∧bE e.a fun C=>∃v:Int,cell b (C.add (d.toNat*2))=some (vi v)∧bX (o==(wrap .i64 (v-(1:Int)))) (bE g fun D=>∃w:OA,cell b (D.add 1)=some (vp w)∧bE w fun E=>∃f:Sl,cell b (E.add 1)=some (.slice f.a f.n f.c)∧(0≤d∧d<(f.n:Int))∧bE f.a fun F=>∃x:Int,cell b ((F.add (d.toNat*2)).add 1)=some (vu x)∧R ((vb (s==x):Value)) b) (R (vb false:Value) b)) (R (vb false:Value) b)) (R (vb false:Value) b)) (R (vb false:Value) b)) (R (vb false:Value) b))
theorem X7 {a0:OA}{a1 a2:Int}{h:Hp}{R:RP}(hF:ae4 a0 a1 a2 h R):bq PG 151 #[vp a0,vu a1,vi a2] h R:=iY (lv:=kw) Tryz.func151 hF
def Jw  (g:OA) (f:Int) (m:OA) (o:Bool) (h:Hp) (R:RP):Prop:=bX o (R (vb false:Value) h) (bE g fun p=>∃b:Sl,cell h (p.add 2)=some (.slice b.a b.n b.c)∧gi (h.push (.cells #[vp m,vi f,vb true] 172)) fun q=>im 172 3 24 #[vp none,vi 0,vb false] b.a b.n b.c (some (nb h)) 1 q fun r s t u=>bE g fun v=>St u (v.add 2) (.slice r s t) fun d=>bE g fun w=>∃j:OA,cell d (w.add 1)=some (vp j)∧bE j fun x=>∃e:Sl,cell d (x.add 2)=some (.slice e.a e.n e.c)∧(0≤f∧f<(e.n:Int))∧bE e.a fun y=>∃i:OA,cell d (y.add (f.toNat*1))=some (vp i)∧bE i fun z=>∃k:Int,cell d (z.add 5)=some (vi k)∧bE i fun l=>gZ d (l.add 5)∧gi (fy d (l.add 5) (vi (wrap .i64 (k+(1:Int))))) fun A=>R (vb true:Value) A)
def XQ(c:OA)(g d:Int)(h:Hp)(R:RP):Prop:=bE c fun i=>∃f:OA,cell h i=some (vp f)∧bq PG 45 #[vp f,vu g] h fun r b=>∃a:OA,∃e:Int,r=vt #[vp a,vi e]∧bX (decide (d<(0:Int))) (bX (Option.isNone a) (R ((vb (e==(60:Int)):Value)) b) (R (vb false:Value) b)) (bX (Option.isNone a) (Jw  c d a true b R) (Jw  c d a (e != (0:Int)) b R))
theorem Mp {a0:OA}{a1 a2:Int}{h:Hp}{R:RP}(hF:XQ a0 a1 a2 h R):bq PG 188 #[vp a0,vu a1,vi a2] h R:=iY (lv:=kw) Tryz.func188 hF
section
variable {h h' h0 h1 h2 g:Hp} {q q2:HQ} {s:RS} {nd:List di} {id tb hn:Nat} {T:TD} {R:RP} {a:Sl} {ob:Option Nat} {l l':List Nm} {c0 c1 p f yl:Nat} {v0:Value}
theorem UB(x:ti h q tb 0)(z:Int)(hR:∀g,bY N h g→R (vt #[uv 0,.slice none 0 0]) g) :
  bq PG 30 #[vp (sa tb),uv f,vi z] h R:=by
 refine RA ?_
 unfold acm
 refine dh fun h1 e1=>dh fun h2 e2=>dh fun h3 e3=>?_
 have k1:bY N h h1:=e1▸cF _ _ _
 have k2:bY N h1 h2:=e2▸cF _ _ _
 have k3:bY N h2 h3:=e3▸cF _ _ _
 have z1:h1.size=h.size+1:=by rw [e1];simp
 have z2:h2.size=h.size+2:=by rw [e2,iH,z1]
 have z3:h3.size=h.size+3:=by rw [e3,iH,z2]
 have w5:eM h1 h.size [vi z]:=e1▸du h #[vi z] _
 have w6:eM h2 h1.size [vu 0]:=e2▸du h1 #[vu 0] _
 have w7:eM h3 h2.size [.slice none 0 0]:=e3▸du h2 #[.slice none 0 0] _
 clear e1 e2 e3
 have w5:=bF (k2.trans k3) w5 _root_.id
 have w6:=bF k3 w6 _root_.id
 rw [show nb h=ad h.size from rfl,show nb h1=ad h1.size from rfl,show nb h2=ad h2.size from rfl]
 have kh3:=k1.trans (k2.trans k3)
 clear k1 k2 k3
 refine⟨_,(bS w5 0).trans rfl,eu w5 (i:=0) rfl (by simp) fun h4 v5 j4=>?_⟩
 have w6:=bF j4 w6 (by omega)
 have w7:=bF j4 w7 (by omega)
 have z4:h3.size≤h4.size:=j4.1
 have kh4:bY N h h4:=cL kh3 j4 fun b e=>by omega
 clear w5 j4
 refine dh fun h5 e5=>dh fun h6 e6=>?_
 have k5:bY N h4 h5:=e5▸cF _ _ _
 have k6:bY N h5 h6:=e6▸cF _ _ _
 have z5:h5.size=h4.size+1:=by rw [e5];simp
 have z6:h6.size=h4.size+2:=by rw [e6,iH,z5]
 have w8:eM h5 h4.size [.slice none 0 0]:=e5▸du h4 #[.slice none 0 0] _
 have w9:eM h6 h5.size [vu 0]:=e6▸du h5 #[vu 0] _
 clear e5 e6
 have w8:=bF k6 w8 _root_.id
 have w6:=bF (k5.trans k6) w6 _root_.id
 have w7:=bF (k5.trans k6) w7 _root_.id
 have kh6:=kh4.trans (k5.trans k6)
 rw [show nb h4=ad h4.size from rfl,show nb h5=ad h5.size from rfl]
 clear k5 k6 v5
 refine eu w9 (i:=0) rfl (by simp) fun h7 v9 j7=>?_
 have w6:=bF j7 w6 (by omega)
 have w7:=bF j7 w7 (by omega)
 have w8:=bF j7 w8 (by omega)
 have kh7:bY N h h7:=cL kh6 j7 fun b e=>by omega
 have z7:h6.size≤h7.size:=j7.1
 clear w9 j7 kh6 kh4 kh3
 refine AP (fun h8 c0 c1 z8 k8=>⟨_,rfl,?_⟩) (v0:=vp (sa tb)) rfl
 have w6:=bF k8 w6 _root_.id
 have w7:=bF k8 w7 _root_.id
 have w8:=bF k8 w8 _root_.id
 have kh8:=kh7.trans k8
 clear v9 k8 kh7
 refine qj (mh.callee 107 (by kernel_rfl)) fun H fn gl kH zH WF GW=>?_
 have w6:=bF kH w6 _root_.id
 have w7:=bF kH w7 _root_.id
 have w8:=bF kH w8 _root_.id
 have c0:=bF kH c0 _root_.id
 have GS:=kh8.trans kH
 have xH:=x.cI GS
 refine MR xH c0 ⟨.ready,none,GW,nofun,?_⟩
 have ll:=iJ GW
 generalize he:H.setIfInBounds (h8.size+1) _=g2
 have k2:bY (fun b=>b=h8.size+1) H g2:=he▸hN ll
 clear he
 have d2:=dv k2 WF (by omega)
 have r6:=bF k2 w6 (by omega)
 have r7:=bF k2 w7 (by omega)
 have r8:=bF k2 w8 (by omega)
 refine⟨⟨none,0,0⟩,(bS r8 0).trans rfl,eu r6 (i:=0) rfl (by simp) fun g3 v6' k3=>?_⟩
 have r7:=bF k3 r7 (by omega)
 have r8:=bF k3 r8 (by omega)
 refine⟨⟨⟨none,0,0⟩,(bS r8 0).trans rfl,rfl⟩,eu r7 (i:=0) rfl (by simp) fun g4 v7' k4=>?_⟩
 have d4:=dv k4 (dv k3 d2 (by omega)) (by omega)
 refine⟨d4,dh fun g5 e5=>?_⟩
 have k5:bY (fun b=>b=h8.size) g4 g5:=e5▸hN (iJ d4)
 clear e5
 have w6:=bF k5 (bF k4 v6' (by omega)) (by omega)
 have w7:=bF k5 v7' (by omega)
 refine⟨_,(bS w6 0).trans rfl,⟨none,0,0⟩,(bS w7 0).trans rfl,hR g5 ?_⟩
 exact cL (cL (cL (cL GS k2 fun b hb=>by omega) k3 fun b hb=>by omega) k4 fun b hb=>by omega) k5 fun b hb=>by omega
theorem aga(x:ti h q tb 0)(hR:∀g,bY N h g→R (.slice none 0 0) g):bq PG 26 #[vp (sa tb)] h R:=by
 refine RE ?_
 unfold aco
 refine dh fun h1 e1=>?_
 have k1:bY N h h1:=e1▸cF _ _ _
 have z1:h1.size=h.size+1:=by rw [e1];simp
 have w3:eM h1 h.size [.slice none 0 0]:=e1▸du h #[.slice none 0 0] _
 clear e1
 rw [show nb h=ad h.size from rfl]
 refine AP (f:=0) (fun h8 c0 c1 z8 k8=>⟨_,rfl,?_⟩) (v0:=vp (sa tb)) rfl
 have w3:=bF k8 w3 _root_.id
 have kh8:=k1.trans k8
 clear k1 k8
 refine qj (mh.callee 107 (by kernel_rfl)) fun H fn gl kH zH WF GW=>?_
 have w3:=bF kH w3 _root_.id
 have c0:=bF kH c0 _root_.id
 have GS:=kh8.trans kH
 refine MR (x.cI GS) c0 ⟨.ready,none,GW,nofun,?_⟩
 have ll:=iJ GW
 generalize he:H.setIfInBounds (h8.size+1) _=g2
 have k2:bY (fun b=>b=h8.size+1) H g2:=he▸hN ll
 clear he
 have d2:=dv k2 WF (by omega)
 have r3:=bF k2 w3 (by omega)
 have ZH:=cL GS k2 fun b hb=>by omega
 refine⟨⟨none,0,0⟩,(bS r3 0).trans rfl,sortBs (BL.nil h g2) nofun gQ (by decide) fun l' g3 b3 p3 _ k3=>⟨⟨none,0,0⟩,rfl,?_⟩⟩
 have d3:=dv k3 d2 nofun
 refine⟨d3,dh fun g5 e5=>?_⟩
 have k5:bY (fun b=>b=h8.size) g3 g5:=e5▸hN (iJ d3)
 exact hR g5 (cL (cL ZH k3 fun b hb=>by cases hb) k5 fun b hb=>by omega)
theorem HF(n:Nat):n≤mR (n:Nat):=by unfold mR;split<;>omega
theorem U7(T:TD):jZ (mR (T.dc.length:Nat)) (T.oS 0) 0 []=(0,T.oo.map (·.2)):=by
 rw [Ae]
 exact BR _ _ _ (by rw [T.qo];have:=HF T.dc.length;simpa using this)
theorem Z9(p0:qA h q s nd tb hn T)(k0:oH T)(r0:eM h c0 [vp (sa tb)]) (J:Nat→Sl→Option Nat→List Nm→Hp→Prop)
  (GV:∀a ob gw g,BL h g a ob gw→gw.map (·.key)=T.oo.map (·.2)→(∀y∈gw,fK y.key)→bY N h g→J 0 a ob gw g)
  (Oo:∀k a ob gw g y,J k a ob gw g→gw[k]?=some y→(∃hB,BL hB g a ob gw)∧mV PG yl [.slice (sa y.c) y.key.length y.key.length] g fun v g'=>(v=vb true∧J (k+1) a ob gw g')∨(v=vb false∧R (vt #[]) g'))
  (Fj:∀a ob gw g,J gw.length a ob gw g→R (vt #[]) g) :
  bq PG 98 #[.func (.yield yl) #[] #[],vp (sa c0)] h R:=by
 refine Rk ?_
 unfold abE
 have cc:=(bS r0 0).trans (rfl:_=some (Value.pointer (sa tb)))
 have o0:=p0.len
 refine⟨_,cc,_,cc,Z4 p0.tr (by omega) ⟨_,rfl,⟨_,cc,rfl⟩,ac3 p0 k0 (by decide) _ fun a ob gw g bl el e8 kg=>⟨_,a,rfl,?_⟩⟩⟩
 rw [U7]at el
 have an:=bl.len
 have AJ:gw.length≤2097152:=by
  have h1:=congrArg List.length el
  rw [bA,bA,T.qo]at h1
  omega
 refine Ft (uP:=a) (fun p s0 uP qS wJ h2=>∃k:Nat,k≤gw.length∧p=gw.length-k∧.func (.yield yl) #[] #[]=s0∧a=uP∧qS=(a.n:Int)∧wJ=(k:Int)∧J k a ob gw h2) gw.length
  ⟨0,cP _,rfl,rfl,rfl,rfl,rfl,GV a ob gw g bl el e8 kg⟩ ?_
 rintro p s0 uP qS wJ g0 h2 ⟨k,hk,rfl,rfl,rfl,rfl,rfl,hJ⟩
 unfold Rj
 refine ca (fun fE=>?_) fun o5=>?_
 ·have zb:k<gw.length:=by omega
  have hy:gw[k]?=some (gw[k]'zb):=br zb
  generalize gw[k]'zb=y at hy
  obtain⟨⟨_,bl2⟩,hyt⟩:=Oo k a ob gw h2 y hJ hy
  obtain⟨b,hb,ha,hc⟩:=bl2.gl.at (o:=k) (v:=bsV y) (by rw [bD,hy];rfl)
  refine⟨⟨by omega,by omega⟩,cW ha ⟨⟨some (ad y.c),y.key.length,y.key.length⟩,by rw [bu,cQ];exact hc,.inr ⟨yl,rfl,hyt.mono fun v g' hv=>?_⟩⟩⟩
  rcases hv with⟨rfl,hJ'⟩|⟨rfl,hR⟩
  ·exact⟨true,rfl,cj rfl ⟨gw.length-(k+1),by omega,k+1,zb,rfl,rfl,rfl,rfl,by rw [bU (by omega) (by omega)];rfl,hJ'⟩⟩
  ·exact⟨false,rfl,cr rfl hR⟩
 ·obtain rfl:k=gw.length:=by omega
  exact Fj a ob gw h2 hJ
theorem UH(gx:Gs h q s nd)(x:ti h q tb 0)(r0:eM h c0 [vp (sa tb)]) (hR:∀g,bY N h g→R (vt #[]) g):bq PG 98 #[.func (.yield yl) #[] #[],vp (sa c0)] h R:=by
 refine Rk ?_
 unfold abE
 have cc:=(bS r0 0).trans (rfl:_=some (Value.pointer (sa tb)))
 refine⟨_,cc,_,cc,ac5 gx x ⟨_,rfl,⟨_,cc,rfl⟩,UB x _ fun g kg=>⟨_,⟨none,0,0⟩,rfl,?_⟩⟩⟩
 refine Ft (uP:=⟨none,0,0⟩) (fun p s0 uP qS wJ h2=>qS=0∧wJ=0∧g=h2) 0 ⟨rfl,rfl,rfl⟩ ?_
 rintro p s0 uP qS wJ g0 h2 ⟨rfl,rfl,rfl⟩
 unfold Rj
 exact cj rfl (hR g kg)
def wI(z:Int)(l:List (LN)):List (LN):=if z<0 then l else l.take z.toNat
structure Zt (hB:Hp) (z:Int) (b3 b5 l db:Nat) (r:Loop) (k:Nat) (a:Sl) (ob:Option Nat) (gw:List Nm) (g:Hp) (a2:Sl) (IW:Option Nat):Prop where
 r3:eM g b3 [vi z]
 r5:eM g b5 [.slice a2.a a2.n a2.c]
 lr:g[l]?=some (.loop r)
 dr:g[db]?=some (.deferred (some []))
 bl:BL hB g a ob gw
 k8:∀y∈gw,fK y.key
 b2:BL hB g a2 IW (gw.take k)
 n2:∀b,IW=some b→ob≠some b∧(∀y∈gw,y.c≠b)∧b≠b3∧b≠b5∧b≠l∧b≠db
 fb:∀b,b=b3∨b=b5∨b=l∨b=db→ob≠some b∧∀y∈gw,y.c≠b
 lt:0≤z→(k:Int)<z
 kp:bY N hB g
 len:gw.length≤2097152
theorem NI {hB:Hp}{z:Int}{b3 b5 l db:Nat}{gl:Nat→Value}{fn:FuncId}{k:Nat}{gw:List Nm}{y:Nm}{a2:Sl}{IW:Option Nat}{R:RP}(hd:b3<b5∧b5<db∧db<l)(hb:hB.size≤b3)
  (st:Zt hB z b3 b5 l db (qH (ad b3) (ad b5) gl fn db .ready none) k a ob gw g a2 IW) (hy:gw[k]?=some y)
  (LH:∀g' a' jK,Zt hB z b3 b5 l db (qH (ad b3) (ad b5) gl fn db .ready none) (k+1) a ob gw g' a' jK→R (vb true) g')
  (Wp:∀g' a' jK,BL hB g' a' jK (gw.take (k+1))→0≤z→z.toNat=k+1→eM g' b5 [.slice a'.a a'.n a'.c]→g'[db]?=some (.deferred (some []))→g'[l]?=some (.loop {qH (ad b3) (ad b5) gl fn db .ready none with state:=.done,pending:=some (.exit 0)})→bY N hB g'→(∀b,jK=some b→b≠b3∧b≠b5∧b≠l∧b≠db)→R (vb false) g') :
  mV PG l [.slice (sa y.c) y.key.length y.key.length] g R:=by
 have zb:k<gw.length:=(bp.1 hy).1
 have hym:y∈gw:=bx hy
 have et:gw.take (k+1)=gw.take k++[y]:=by rw [jP,hy];rfl
 have YU:(gw.take k).length=k:=by rw [dm];omega
 have an:=st.b2.len
 rw [YU]at an
 have AJ:=st.len
 refine Xi (a0:=⟨some (ad y.c),y.key.length,y.key.length⟩) st.lr ?_
 unfold Xk
 have ll:=iJ st.lr
 refine⟨_,st.lr,rfl,dh fun h4 e4=>?_⟩
 have k4:bY (fun b=>b=l) g h4:=e4▸hN ll
 have l4:h4[l]?=some (.loop {qH (ad b3) (ad b5) gl fn db .ready none with state:=.busy}):=by rw [e4];exact t7 ll
 clear e4
 have r3:=bF k4 st.r3 (by omega)
 have r5:=bF k4 st.r5 (by omega)
 have d4:=dv k4 st.dr (by omega)
 have fl:=fun b hb=>st.fb b hb
 have bl4:=st.bl.eG k4 fun b e=>fl b (by omega)
 have b24:BL hB h4 a2 IW (gw.take k):=st.b2.eG k4 fun b e=>⟨fun z=>(st.n2 b z).2.2.2.2.1 e,fun y hy=>(fl b (by omega)).2 y (dK hy)⟩
 have k0:=cL st.kp k4 fun b e=>by omega
 have ry:=bl4.row y hym
 refine⟨a2,(bS r5 0).trans rfl,b24.add (y:=y) k0.1 ry.1 ry.2.1 (fun e=>(st.n2 _ e).2.1 y hym rfl) (fun w hw e=>?_) (by omega) fun a' c' h6 jK b26 k6 nw6=>?_⟩
 ·obtain⟨i,hi⟩:=bT.1 hw
  have hik:i<k:=by
   have:=(bp.1 hi).1
   omega
  rw [f9 hik]at hi
  have hn:=st.bl.CV
  have:=EO (lt:=fun a b:Nat=>a≠b) hn hik (by rw [bD,hi];rfl) (by rw [bD,hy];rfl)
  exact this e
 have n2':∀b,jK=some b→ob≠some b∧(∀y∈gw,y.c≠b)∧b≠b3∧b≠b5∧b≠l∧b≠db:=fun b e=>by
  rcases nw6 b e with z|z
  ·exact st.n2 b z
  ·have q1:=eE r3
   have q2:=eE r5
   have q3:=iJ l4
   have q4:=iJ d4
   refine⟨fun e=>?_,fun y hy e=>?_,by omega,by omega,by omega,by omega⟩
   ·have:=bl4.gl.lt e;omega
   ·have:=eE (bl4.row y hy).1;omega
 have nS:∀b,b=b3∨b=b5∨b=l∨b=db→IW≠some b:=fun b hb e=>by
  have:=st.n2 b e;omega
 have r5':=bF k6 r5 (nS b5 (by omega))
 have r3':=bF k6 r3 (nS b3 (by omega))
 refine eu r5' (i:=0) rfl (by simp) fun h7 w5 k7=>?_
 have w3:=bF k7 r3' (by omega)
 have l7:=dv k7 (dv k6 l4 (nS l (by omega))) (by omega)
 have d7:=dv k7 (dv k6 d4 (nS db (by omega))) (by omega)
 have bl6:BL hB h6 a ob gw:=bl4.eG k6 fun b e=>⟨(st.n2 b e).1,(st.n2 b e).2.1⟩
 have bl7:=bl6.eG k7 fun b e=>fl b (by omega)
 have b27:BL hB h7 ⟨a',a2.n+1,c'⟩ jK (gw.take (k+1)):=by
  rw [et]
  exact b26.eG k7 fun b e=>⟨fun z=>(n2' b z).2.2.2.1 e,fun y' DF=>(fl b (by omega)).2 y' (by rw [←et]at DF;exact dK DF)⟩
 have k07:=cL (cL k0 k6 fun b e=>b24.gl.new b e) k7 fun b e=>by omega
 have ZG:=iJ l7
 refine⟨⟨a',a2.n+1,c'⟩,(bS w5 0).trans rfl,_,(bS w3 0).trans rfl,?_⟩
 by_cases hz:z=((k+1:Nat):Int)
 ·refine cr (beq_iff_eq.2 (show ((a2.n+1:Nat):Int)=z by omega)) ⟨_,l7,?_⟩
  generalize Q7:h7.setIfInBounds l _=h8
  have k8:bY (fun b=>b=l) h7 h8:=Q7▸hN ZG
  have l8:h8[l]?=some (.loop {qH (ad b3) (ad b5) gl fn db .ready none with state:=.done,pending:=some (.exit 0)}):=by rw [←Q7];exact t7 ZG
  exact Wp h8 ⟨a',a2.n+1,c'⟩ jK (b27.eG k8 fun b e=>⟨fun z=>(n2' b z).2.2.2.2.1 e,fun y hy=>(fl b (by omega)).2 y (dK hy)⟩) (by omega) (by omega) (bF k8 w5 (by omega)) (dv k8 d7 (by omega)) l8 (cL k07 k8 fun b e=>by omega) fun b e=>(n2' b e).2.2
 ·refine cj (beq_eq_false_iff_ne.2 (show ((a2.n+1:Nat):Int)≠z by omega)) ⟨_,l7,?_⟩
  generalize Q7:h7.setIfInBounds l _=h8
  have k8:bY (fun b=>b=l) h7 h8:=Q7▸hN ZG
  have l8:h8[l]?=some (.loop (qH (ad b3) (ad b5) gl fn db .ready none)):=by rw [←Q7];exact t7 ZG
  exact LH h8 ⟨a',a2.n+1,c'⟩ jK ⟨bF k8 w3 (by omega),bF k8 w5 (by omega),l8,dv k8 d7 (by omega),bl7.eG k8 fun b e=>fl b (by omega),st.k8,b27.eG k8 fun b e=>⟨fun z=>(n2' b z).2.2.2.2.1 e,fun y hy=>(fl b (by omega)).2 y (dK hy)⟩,n2',st.fb,fun h0=>by have:=st.lt h0;omega,cL k07 k8 fun b e=>by omega,st.len⟩
theorem Hu {z:Int}(h':Hp)(hz:z≠0){t:OA}
  (hK:∀h3,eM h3 h.size [vi z]→eM h3 (h.size+1) [.slice none 0 0]→eM h3 (h.size+2) [vp t]→h3.size=h.size+3→bY N h h3→yU PG fN (.func (.func 98) #[] #[vp (some (ad (h.size+2)))]) #[12] (SE (sub [1,1,1,0,1,0] (bd Tryz.f33))) (SD (sub [1,1,1,0,1,0] (bd Tryz.f33))) [(3,vp (sa h.size)),(5,vp (some (ad (h.size+1))))] 22 h3 (CA (fun h4=>∃Hs:Sl,cell h4 (ad (h.size+1))=some (.slice Hs.a Hs.n Hs.c)∧h4[h3.size]?=some (.deferred (some []))∧gi (h4.setIfInBounds h3.size (.deferred none)) fun h5=>R (.slice Hs.a Hs.n Hs.c:Value) h5) (fun h4=>h4[h3.size]?=some (.deferred (some []))∧gi (h4.setIfInBounds h3.size (.deferred none)) fun h6=>R (.slice none 0 0:Value) h6) fun id h4=>if id=0 then(∃Hs:Sl,cell h4 (ad (h.size+1))=some (.slice Hs.a Hs.n Hs.c)∧h4[h3.size]?=some (.deferred (some []))∧gi (h4.setIfInBounds h3.size (.deferred none)) fun h7=>R (.slice Hs.a Hs.n Hs.c:Value) h7)else False)) :
  bq PG 33 #[vp t,vi z] h R:=by
 refine Rz ?_
 unfold acj
 refine dh fun h1 e1=>dh fun h2 e2=>?_
 have k1:bY N h h1:=e1▸cF _ _ _
 have k2:bY N h1 h2:=e2▸cF _ _ _
 have z1:h1.size=h.size+1:=by rw [e1];simp
 have z2:h2.size=h.size+2:=by rw [e2,iH,z1]
 have w3:eM h1 h.size [vi z]:=e1▸du h #[vi z] _
 have w5:eM h2 h1.size [.slice none 0 0]:=e2▸du h1 #[.slice none 0 0] _
 clear e1 e2
 have w3:=bF k2 w3 _root_.id
 rw [show nb h=ad h.size from rfl,show nb h1=ad (h.size+1)from by unfold nb ad;rw [z1]]
 rw [z1]at w5
 refine⟨_,(bS w3 0).trans rfl,cj (beq_eq_false_iff_ne.2 hz) (aca ?_)⟩
 unfold aof
 refine dh fun h3 e3=>⟨_,rfl,?_⟩
 have k3:bY N h2 h3:=e3▸cF _ _ _
 have w6:eM h3 h2.size [vp t]:=e3▸du h2 #[vp t] _
 have z3:h3.size=h.size+3:=by rw [e3,iH,z2]
 clear e3
 rw [show nb h2=ad (h.size+2)from by unfold nb ad;rw [z2]]
 rw [z2]at w6
 exact hK h3 (bF k3 w3 _root_.id) (bF k3 w5 _root_.id) w6 z3 (k1.trans (k2.trans k3))
theorem Ht {t:OA}(hR:∀g,bY N h g→R (.slice none 0 0) g):bq PG 33 #[vp t,vi 0] h R:=by
 refine Rz ?_
 unfold acj
 refine dh fun h1 e1=>dh fun h2 e2=>?_
 have k1:bY N h h1:=e1▸cF _ _ _
 have k2:bY N h1 h2:=e2▸cF _ _ _
 have w3:eM h1 h.size [vi 0]:=e1▸du h #[vi 0] _
 have w5:eM h2 h1.size [.slice none 0 0]:=e2▸du h1 #[.slice none 0 0] _
 exact⟨_,(bS (bF k2 w3 _root_.id) 0).trans rfl,cr rfl ⟨⟨none,0,0⟩,(bS w5 0).trans rfl,hR h2 (k1.trans k2)⟩⟩
theorem akn(p0:qA h q s nd tb hn T)(k0:oH T)(z:Int)
  (hR:∀a ob gw g,BL h g a ob gw→gw.map (·.key)=wI z (T.oo.map (·.2))→(∀y∈gw,fK y.key)→bY N h g→R (.slice a.a a.n a.c) g) :
  bq PG 33 #[vp (sa tb),vi z] h R:=by
 by_cases hz:z=0
 ·subst hz
  exact Ht fun g kg=>hR ⟨none,0,0⟩ none [] g (BL.nil _ _) rfl nofun kg
 refine Hu h hz fun h3 w3 w5 w6 z3 k3=>?_
 refine qj (mh.callee 98 (by kernel_rfl)) fun H fn gl kH zH WF GW=>?_
 have w3:=bF kH w3 _root_.id
 have w5:=bF kH w5 _root_.id
 have w6:=bF kH w6 _root_.id
 have GS:=k3.trans kH
 have HU:H[h3.size+1]?=some (.loop (qH (ad h.size) (ad (h.size+1)) gl fn h3.size .ready none)):=GW
 clear GW
 have key:∀a' jK wU g',BL h g' a' jK wU→wU.map (·.key)=wI z (T.oo.map (·.2))→(∀y∈wU,fK y.key)→eM g' (h.size+1) [.slice a'.a a'.n a'.c]→g'[h3.size]?=some (.deferred (some []))→bY N h g'→(∀b,jK=some b→b≠h3.size)→(∀y∈wU,y.c≠h3.size) →
   ∃Hs:Sl,cell g' (ad (h.size+1))=some (.slice Hs.a Hs.n Hs.c)∧g'[h3.size]?=some (.deferred (some []))∧gi (g'.setIfInBounds h3.size (.deferred none)) fun h5=>R (.slice Hs.a Hs.n Hs.c:Value) h5:=fun a' jK wU g' bl el e8 w d k ho hc=>by
  refine⟨a',(bS w 0).trans rfl,d,dh fun g5 e5=>?_⟩
  have k5:bY (fun b=>b=h3.size) g' g5:=e5▸hN (iJ d)
  exact hR a' jK wU g5 (bl.eG k5 fun b e=>⟨fun z=>ho b z e,fun y hy=>e▸hc y hy⟩) el e8 (cL k k5 fun b e=>by omega)
 have vF:=zH
 refine Z9 (p0.cI GS) k0 w6 (fun k a ob gw g=>(∃a2 IW,Zt h z h.size (h.size+1) (h3.size+1) h3.size (qH (ad h.size) (ad (h.size+1)) gl fn h3.size .ready none) k a ob gw g a2 IW)∧gw.map (·.key)=T.oo.map (·.2)) ?_ ?_ ?_
 ·intro a ob gw g bl el e8 kg
  have AJ:gw.length≤2097152:=by
   have h1:=congrArg List.length el
   rw [bA,bA,T.qo]at h1
   have:=p0.len
   omega
  have hn:∀b,b<H.size→ob≠some b∧∀y∈gw,y.c≠b:=fun b hb=>⟨fun e=>by have:=bl.gl.new b e;omega,fun y hy e=>by have:=(bl.row y hy).2.1;omega⟩
  have blh:BL h g a ob gw:=⟨⟨bl.gl.sl,fun b e=>bP GS.1 (bl.gl.new b e)⟩,fun y hy=>⟨(bl.row y hy).1,bP GS.1 (bl.row y hy).2.1,(bl.row y hy).2.2⟩,bl.CV⟩
  refine⟨⟨⟨none,0,0⟩,none,bF kg w3 _root_.id,bF kg w5 _root_.id,dv kg HU _root_.id,dv kg WF _root_.id,blh,e8,BL.nil _ _,nofun,fun b hb=>hn b (by omega),fun h0=>by omega,GS.trans kg,AJ⟩,el⟩
 ·rintro k a ob gw g y ⟨⟨a2,IW,st⟩,el⟩ hy
  have zb:k<gw.length:=(bp.1 hy).1
  refine⟨?_,NI ⟨by omega,by omega,by omega⟩ (bH _) st hy (fun g' a' jK st'=>.inl ⟨rfl,⟨a',jK,st'⟩,el⟩) fun g' a' jK b2 h0 hz2 w5' d' l' k' ne=>.inr ⟨rfl,.done,some (.exit 0),l',nofun,?_⟩⟩
  ·exact⟨h,st.bl⟩
  ·have ll:=iJ l'
   generalize he:g'.setIfInBounds (h3.size+1) _=g2
   have k2:bY (fun b=>b=h3.size+1) g' g2:=he▸hN ll
   unfold CA
   dsimp only
   rw [if_pos rfl]
   refine key a' jK (gw.take (k+1)) g2 (b2.eG k2 fun b e=>⟨fun z=>(ne b z).2.2.1 e,fun y hy=>(st.fb b (by omega)).2 y (dK hy)⟩) ?_ (fun y hy=>st.k8 y (dK hy)) (bF k2 w5' (by omega)) (dv k2 d' (by omega)) (cL k' k2 fun b e=>by omega) (fun b e=>(ne b e).2.2.2) fun y hy=>(st.fb _ (by omega)).2 y (dK hy)
   unfold wI
   rw [if_neg (by omega),←el,hz2,mM]
 ·rintro a ob gw g ⟨⟨a2,IW,st⟩,el⟩
  refine⟨.ready,none,st.lr,nofun,?_⟩
  have ll:=iJ st.lr
  generalize he:g.setIfInBounds (h3.size+1) _=g2
  have k2:bY (fun b=>b=h3.size+1) g g2:=he▸hN ll
  have b2:=st.b2
  rw [dE]at b2
  refine key a2 IW gw g2 (b2.eG k2 fun b e=>⟨fun z=>(st.n2 b z).2.2.2.2.1 e,fun y hy=>(st.fb b (by omega)).2 y hy⟩) ?_ st.k8 (bF k2 st.r5 (by omega)) (dv k2 st.dr (by omega)) (cL st.kp k2 fun b e=>by omega) (fun b e=>(st.n2 b e).2.2.2.2.2) fun y hy=>(st.fb _ (by omega)).2 y hy
  unfold wI
  have hl:=congrArg List.length el
  rw [bA]at hl
  by_cases h0:z<0
  ·rw [if_pos h0,el]
  ·rw [if_neg h0,el]
   have:=st.lt (by omega)
   rw [eT (by omega)]
theorem af5(gx:Gs h q s nd)(x:ti h q tb 0)(z:Int)(hR:∀g,bY N h g→R (.slice none 0 0) g):bq PG 33 #[vp (sa tb),vi z] h R:=by
 by_cases hz:z=0
 ·subst hz
  exact Ht hR
 refine Hu h hz fun h3 w3 w5 w6 z3 k3=>?_
 refine qj (mh.callee 98 (by kernel_rfl)) fun H fn gl kH zH WF GW=>?_
 have GS:=k3.trans kH
 refine UH (gx.cI GS) (x.cI GS) (bF kH w6 _root_.id) fun g kg=>⟨.ready,none,dv kg GW _root_.id,nofun,?_⟩
 have hl:=dv kg GW _root_.id
 have ll:=iJ hl
 have kH0:=kH.trans kg
 generalize he:g.setIfInBounds (h3.size+1) _=g2
 have k2:bY (fun b=>b=h3.size+1) g g2:=he▸hN ll
 have d2:=dv k2 (dv kg WF _root_.id) (by omega)
 refine⟨⟨none,0,0⟩,(bS (bF k2 (bF kH0 w5 _root_.id) (by omega)) 0).trans rfl,d2,dh fun g5 e5=>?_⟩
 have k5:bY (fun b=>b=h3.size) g2 g5:=e5▸hN (iJ d2)
 exact hR g5 (cL (cL (GS.trans kg) k2 fun b e=>by omega) k5 fun b e=>by omega)
end
end Go.Ev
