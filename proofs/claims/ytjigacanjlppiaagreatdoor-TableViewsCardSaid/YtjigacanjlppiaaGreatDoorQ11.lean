/- Printed by a program (own work) out of the l. No condition. -/
import Derived.Test.YtjigacanjlppiaaGreatDoorQ10
set_option linter.all false
set_option maxRecDepth 1000000
open Go.IntKind (wrap)
namespace Go.Ev
open Go.Proofs
def acq(b:OA)(h:Hp)(R:RP):Prop:=bq PG 61 #[vp b,vi 3] h fun r c=>∃a:Int,r=vu a∧R ((vi (wrap .i64 a):Value)) c
theorem Jq {a0:OA}{h:Hp}{R:RP}(hF:acq a0 h R):bq PG 24 #[vp a0] h R:=iY (lv:=kw) Tryz.func24 hF
def V8(m:Nat):LN:=if m=3 then [3]else []
def aco(k:OA)(h:Hp)(R:RP):Prop:=gi (h.push (.cells #[.slice none 0 0] 37)) fun l=>bq PG 63 #[vp k,vu 0] l fun r f=>∃g:Value,r=g∧yU PG fN g #[7] (SE (sub [1,1,0,1,0] (bd Tryz.f26))) (SD (sub [1,1,0,1,0] (bd Tryz.f26))) [(3,vp (some (nb h)))] 15 f (CA (fun e=>∃b:Sl,cell e (nb h)=some (.slice b.a b.n b.c)∧bq PG 64 #[.slice b.a b.n b.c,.func (.func 65) #[] #[]] e fun r i=>∃d:Sl,r=.slice d.a d.n d.c∧i[f.size]?=some (.deferred (some []))∧gi (i.setIfInBounds f.size (.deferred none)) fun m=>R (.slice d.a d.n d.c:Value) m) (fun e=>e[f.size]?=some (.deferred (some []))∧gi (e.setIfInBounds f.size (.deferred none)) fun o=>R (.slice none 0 0:Value) o) fun id e=>if id=0 then(∃b:Sl,cell e (nb h)=some (.slice b.a b.n b.c)∧bq PG 64 #[.slice b.a b.n b.c,.func (.func 65) #[] #[]] e fun r j=>∃d:Sl,r=.slice d.a d.n d.c∧j[f.size]?=some (.deferred (some []))∧gi (j.setIfInBounds f.size (.deferred none)) fun p=>R (.slice d.a d.n d.c:Value) p)else False)
def Xr(s3:Addr)(pF:Int)(lf:Sl)(l:Nat)(h:Hp)(R:RP):Prop :=
 gi (h.push (.cells #[vu 0,.slice none 0 0] 102)) fun h1=>St h1 (nb h) (vu pF) fun h2=>St h2 ((nb h).add 1) (.slice lf.a lf.n lf.c) fun h3=>∃r:Loop,h3[l]?=some (.loop r)∧r.state=.ready∧gi (h3.setIfInBounds l (.loop {r with state:=.busy})) fun h4=>∃t8:Sl,cell h4 s3=some (.slice t8.a t8.n t8.c)∧∃t10:Sl,cell h4 ((nb h).add 1)=some (.slice t10.a t10.n t10.c)∧gi (h4.push (.cells #[.slice t10.a t10.n t10.c] 39)) fun h5=>im 39 1 24 #[.slice none 0 0] t8.a t8.n t8.c (some (nb h4)) 1 h5 fun ra6 rn6 rc6 h6=>St h6 s3 (.slice ra6 rn6 rc6) fun h7=>Hf l R none h7
theorem Xq(s3:Addr)(pF:Int)(lf:Sl)(l:Nat)(g:Nat→Value)(h:Hp)(R:RP):wE PG fN V8 l (SE (sub [1,1,0,1,0] (bd Tryz.f26))) (SD (sub [1,1,0,1,0] (bd Tryz.f26))) (lU 15 [(3,vp (some s3)),(7,.agg #[vu pF,.slice lf.a lf.n lf.c])] g) h R=Xr s3 pF lf l h R:=by kernel_rfl
noncomputable def ud(s3:Addr)(g:Nat→Value)(fn:FuncId)(b:Nat)(st:LoopState)(ph:Option Code):Loop:=Dk fn (lU 15 [(3,vp (some s3))] g) #[7] (SE (sub [1,1,0,1,0] (bd Tryz.f26))) (SD (sub [1,1,0,1,0] (bd Tryz.f26))) b st ph
theorem Xp {s3:Addr}{pF:Int}{lf:Sl}{l:Nat}{g:Nat→Value}{fn:FuncId}{b:Nat}{ph:Option Code}{h:Hp}{R:RP}(hl:h[l]?=some (.loop (ud s3 g fn b .ready ph))) (hB:Xr s3 pF lf l h R):mV PG l [.agg #[vu pF,.slice lf.a lf.n lf.c]] h R :=
 zJ (lv:=V8) (r:=ud s3 g fn b .ready ph) (env:=lU 15 [(3,vp (some s3)),(7,.agg #[vu pF,.slice lf.a lf.n lf.c])] g) mixed mh hl rfl (by kernel_rfl) (by kernel_rfl) (by kernel_rfl) (by kernel_rfl) (by kernel_rfl) (by
  show wE PG fN V8 l (SE (sub [1,1,0,1,0] (bd Tryz.f26))) (SD (sub [1,1,0,1,0] (bd Tryz.f26))) _ h R
  rw [Xq];exact hB)
theorem acn(a0:OA)(h:Hp)(R:RP):acz PG fN V8 Tryz.f26 (bd Tryz.f26) [] [vp a0] h R=aco a0 h R:=by kernel_rfl
theorem RE {a0:OA}{h:Hp}{R:RP}(hF:aco a0 h R):bq PG 26 #[vp a0] h R :=
 uz (lv:=V8) (ik:=[]) (c:=(bd Tryz.f26)) (args:=[vp a0]) mixed mh Tryz.func26 (by kernel_rfl) (by kernel_rfl) (by kernel_rfl) (by rw [acn];exact hF)
def air(b:OA)(d:Sl)(h:Hp)(R:RP):Prop:=bE b fun o=>∃f:Int,cell h (o.add 1)=some (vi f)∧bX (f==(0:Int)) (R (vt #[vu 0,vu 0,vu 0,vi 61]:Value) h) (bq PG 61 #[vp b,vi 2] h fun r p=>∃g:Int,r=vu g∧bq PG 68 #[vu g,.slice d.a d.n d.c] p fun r q=>∃i:Int,r=vu i∧bq PG 67 #[vp b,vu i,.slice d.a d.n d.c] q fun r j=>∃s:Int,∃t:Int,∃e:Int,r=vt #[vu s,vi t,vu e]∧bX (e==(0:Int)) (R (vt #[vu 0,vu 0,vu 0,vi 63]:Value) j) (bq PG 69 #[vp b,vu e,vi 2] j fun r u=>∃k:Int,r=vu k∧bq PG 69 #[vp b,vu e,vi 4] u fun r v=>∃l:Int,r=vu l∧bq PG 69 #[vp b,vu e,vi 5] v fun r w=>∃m:Int,r=vu m∧R (vt #[vu k,vu l,vu m,vi 0]:Value) w))
theorem RB {a0:OA}{a1:Sl}{h:Hp}{R:RP}(hF:air a0 a1 h R):bq PG 28 #[vp a0,vl a1] h R:=iY (lv:=kw) Tryz.func28 hF
def V5(m:Nat):LN:=if m=5 then [5,6,7,8,9]else []
def acm(y:OA)(z A:Int)(h:Hp)(R:RP):Prop:=gi (h.push (.cells #[vi A] 3)) fun g=>gi (g.push (.cells #[vu 0] 27)) fun i=>gi (i.push (.cells #[.slice none 0 0] 37)) fun s=>∃l:Int,cell s (nb h)=some (vi l)∧St s (nb h) (vi (if l<(1:Int)then(1:Int)else l)) fun k=>gi (k.push (.cells #[.slice none 0 0] 37)) fun m=>gi (m.push (.cells #[vu 0] 27)) fun B=>St B (nb m) (vu 0) fun C=>bq PG 63 #[vp y,vu z] C fun r j=>∃t:Value,r=t∧yU PG fN t #[16] (SE (sub [1,1,1,1,0,1,0] (bd Tryz.f30))) (SD (sub [1,1,1,1,0,1,0] (bd Tryz.f30))) [(5,vp (some (nb h))),(6,vp (some (nb g))),(7,vp (some (nb i))),(8,vp (some (nb k))),(9,vp (some (nb m)))] 38 j (CA (fun e=>∃d:Sl,cell e (nb k)=some (.slice d.a d.n d.c)∧St e (nb g) (vu 0) fun u=>CS u (nb k) d∧St u (nb i) (.slice d.a d.n d.c) fun v=>v[j.size]?=some (.deferred (some []))∧gi (v.setIfInBounds j.size (.deferred none)) fun o=>∃f:Int,cell o (nb g)=some (vu f)∧∃b:Sl,cell o (nb i)=some (.slice b.a b.n b.c)∧R (vt #[vu f,.slice b.a b.n b.c]:Value) o) (fun e=>e[j.size]?=some (.deferred (some []))∧gi (e.setIfInBounds j.size (.deferred none)) fun p=>∃f:Int,cell p (nb g)=some (vu f)∧∃b:Sl,cell p (nb i)=some (.slice b.a b.n b.c)∧R (vt #[vu f,.slice b.a b.n b.c]:Value) p) fun id e=>if id=0 then(∃d:Sl,cell e (nb k)=some (.slice d.a d.n d.c)∧St e (nb g) (vu 0) fun w=>CS w (nb k) d∧St w (nb i) (.slice d.a d.n d.c) fun x=>x[j.size]?=some (.deferred (some []))∧gi (x.setIfInBounds j.size (.deferred none)) fun q=>∃f:Int,cell q (nb g)=some (vu f)∧∃b:Sl,cell q (nb i)=some (.slice b.a b.n b.c)∧R (vt #[vu f,.slice b.a b.n b.c]:Value) q)else False)
def Xn(s5 s6 s7 s8 s9:Addr)(pF:Int)(lf:Sl)(l:Nat)(h:Hp)(R:RP):Prop :=
 gi (h.push (.cells #[vu 0,.slice none 0 0] 102)) fun h1=>St h1 (nb h) (vu pF) fun h2=>St h2 ((nb h).add 1) (.slice lf.a lf.n lf.c) fun h3=>∃r:Loop,h3[l]?=some (.loop r)∧r.state=.ready∧gi (h3.setIfInBounds l (.loop {r with state:=.busy})) fun h4=>∃t17:Sl,cell h4 s8=some (.slice t17.a t17.n t17.c)∧∃t19:Int,cell h4 s5=some (vi t19)∧bX (decide ((t17.n:Int)≥t19)) (∃t23:Int,cell h4 (nb h)=some (vu t23)∧∃t24:Int,cell h4 s9=some (vu t24)∧bX (t23 != t24) (∃t28:Int,cell h4 (nb h)=some (vu t28)∧∃t29:Sl,cell h4 s8=some (.slice t29.a t29.n t29.c)∧St h4 s6 (vu t28) fun h5=>CS h5 s8 t29∧St h5 s7 (.slice t29.a t29.n t29.c) fun h6=>Hf l R (some .ret) h6) (∃t31:Int,cell h4 (nb h)=some (vu t31)∧St h4 s9 (vu t31) fun h7=>∃Hr:Sl,cell h7 s8=some (.slice Hr.a Hr.n Hr.c)∧∃Hq:Sl,cell h7 ((nb h).add 1)=some (.slice Hq.a Hq.n Hq.c)∧gi (h7.push (.cells #[.slice Hq.a Hq.n Hq.c] 39)) fun h8=>im 39 1 24 #[.slice none 0 0] Hr.a Hr.n Hr.c (some (nb h7)) 1 h8 fun ra9 rn9 rc9 h9=>St h9 s8 (.slice ra9 rn9 rc9) fun Dq=>Hf l R none Dq)) (∃t31:Int,cell h4 (nb h)=some (vu t31)∧St h4 s9 (vu t31) fun Aj=>∃Hr:Sl,cell Aj s8=some (.slice Hr.a Hr.n Hr.c)∧∃Hq:Sl,cell Aj ((nb h).add 1)=some (.slice Hq.a Hq.n Hq.c)∧gi (Aj.push (.cells #[.slice Hq.a Hq.n Hq.c] 39)) fun Tl=>im 39 1 24 #[.slice none 0 0] Hr.a Hr.n Hr.c (some (nb Aj)) 1 Tl fun Vq agB agE zC=>St zC s8 (.slice Vq agB agE) fun H1=>Hf l R none H1)
theorem Xm(s5 s6 s7 s8 s9:Addr)(pF:Int)(lf:Sl)(l:Nat)(g:Nat→Value)(h:Hp)(R:RP):wE PG fN V5 l (SE (sub [1,1,1,1,0,1,0] (bd Tryz.f30))) (SD (sub [1,1,1,1,0,1,0] (bd Tryz.f30))) (lU 38 [(5,vp (some s5)),(6,vp (some s6)),(7,vp (some s7)),(8,vp (some s8)),(9,vp (some s9)),(16,.agg #[vu pF,.slice lf.a lf.n lf.c])] g) h R=Xn s5 s6 s7 s8 s9 pF lf l h R:=by kernel_rfl
noncomputable def qI(s5 s6 s7 s8 s9:Addr)(g:Nat→Value)(fn:FuncId)(b:Nat)(st:LoopState)(ph:Option Code):Loop:=Dk fn (lU 38 [(5,vp (some s5)),(6,vp (some s6)),(7,vp (some s7)),(8,vp (some s8)),(9,vp (some s9))] g) #[16] (SE (sub [1,1,1,1,0,1,0] (bd Tryz.f30))) (SD (sub [1,1,1,1,0,1,0] (bd Tryz.f30))) b st ph
theorem Xl {s5 s6 s7 s8 s9:Addr}{pF:Int}{lf:Sl}{l:Nat}{g:Nat→Value}{fn:FuncId}{b:Nat}{ph:Option Code}{h:Hp}{R:RP}(hl:h[l]?=some (.loop (qI s5 s6 s7 s8 s9 g fn b .ready ph))) (hB:Xn s5 s6 s7 s8 s9 pF lf l h R):mV PG l [.agg #[vu pF,.slice lf.a lf.n lf.c]] h R :=
 zJ (lv:=V5) (r:=qI s5 s6 s7 s8 s9 g fn b .ready ph) (env:=lU 38 [(5,vp (some s5)),(6,vp (some s6)),(7,vp (some s7)),(8,vp (some s8)),(9,vp (some s9)),(16,.agg #[vu pF,.slice lf.a lf.n lf.c])] g) mixed mh hl rfl (by kernel_rfl) (by kernel_rfl) (by kernel_rfl) (by kernel_rfl) (by kernel_rfl) (by
  show wE PG fN V5 l (SE (sub [1,1,1,1,0,1,0] (bd Tryz.f30))) (SD (sub [1,1,1,1,0,1,0] (bd Tryz.f30))) _ h R
  rw [Xm];exact hB)
theorem acl(a0:OA)(a1 a2:Int)(h:Hp)(R:RP):acz PG fN V5 Tryz.f30 (bd Tryz.f30) [.int .u64,.sl] [vp a0,vu a1,vi a2] h R=acm a0 a1 a2 h R:=by kernel_rfl
theorem RA {a0:OA}{a1 a2:Int}{h:Hp}{R:RP}(hF:acm a0 a1 a2 h R):bq PG 30 #[vp a0,vu a1,vi a2] h R :=
 uz (lv:=V5) (ik:=[.int .u64,.sl]) (c:=(bd Tryz.f30)) (args:=[vp a0,vu a1,vi a2]) mixed mh Tryz.func30 (by kernel_rfl) (by kernel_rfl) (by kernel_rfl) (by rw [acl];exact hF)
def aip(a:OA)(h:Hp)(R:RP):Prop:=bE a fun e=>∃b:Int,cell h (e.add 1)=some (vi b)∧bX (b != (0:Int)) (bE a fun f=>∃c:OA,cell h f=some (vp c)∧bE a fun g=>∃d:Int,cell h (g.add 1)=some (vi d)∧bq PG 84 #[vp c,vi d] h fun r i=>∃j:Int,r=vi j∧bE a fun k=>St i (k.add 1) (vi 0) fun l=>R (vt #[]:Value) l) (R (vt #[]:Value) h)
theorem Ry {a0:OA}{h:Hp}{R:RP}(hF:aip a0 h R):bq PG 40 #[vp a0] h R:=iY (lv:=kw) Tryz.func40 hF
def ace(a:OA)(h:Hp)(R:RP):Prop:=gi (h.push (.cells #[vi 0,vi 0,vi 0,vi 0] 70)) fun i=>bE a fun q=>∃j:Int,cell i (q.add 1)=some (vi j)∧bX (j==(0:Int)) (St i (nb h) (vi 0) fun s=>St s ((nb h).add 1) (vi 0) fun t=>St t ((nb h).add 2) (vi 0) fun u=>St u ((nb h).add 3) (vi 0) fun b=>∃c:Int,cell b (nb h)=some (vi c)∧∃d:Int,cell b ((nb h).add 1)=some (vi d)∧∃e:Int,cell b ((nb h).add 2)=some (vi e)∧∃f:Int,cell b ((nb h).add 3)=some (vi f)∧R (.agg #[vi c,vi d,vi e,vi f]:Value) b) (bq PG 24 #[vp a] i fun r v=>∃k:Int,r=vi k∧bq PG 61 #[vp a,vi 0] v fun r w=>∃l:Int,r=vu l∧bq PG 88 #[vp a,vu l] w fun r x=>∃m:Int,r=vi m∧bq PG 61 #[vp a,vi 1] x fun r y=>∃n:Int,r=vu n∧bq PG 88 #[vp a,vu n] y fun r z=>∃o:Int,r=vi o∧bq PG 61 #[vp a,vi 4] z fun r A=>∃p:Int,r=vu p∧St A (nb h) (vi k) fun B=>St B ((nb h).add 1) (vi m) fun C=>St C ((nb h).add 2) (vi o) fun D=>St D ((nb h).add 3) (vi (wrap .i64 p)) fun g=>∃c:Int,cell g (nb h)=some (vi c)∧∃d:Int,cell g ((nb h).add 1)=some (vi d)∧∃e:Int,cell g ((nb h).add 2)=some (vi e)∧∃f:Int,cell g ((nb h).add 3)=some (vi f)∧R (.agg #[vi c,vi d,vi e,vi f]:Value) g)
theorem acd(a0:OA)(h:Hp)(R:RP):evF PG fN kw Tryz.f44 (bd Tryz.f44) [.int .i64,.int .i64,.int .i64,.int .i64] [vp a0] h R=ace a0 h R:=by kernel_rfl
theorem Rw {a0:OA}{h:Hp}{R:RP}(hF:ace a0 h R):bq PG 44 #[vp a0] h R :=
 wj (lv:=kw) (ik:=[.int .i64,.int .i64,.int .i64,.int .i64]) (c:=(bd Tryz.f44)) (args:=[vp a0]) mixed mh Tryz.func44 (by kernel_rfl) (by kernel_rfl) (by rw [acd];exact hF)
def H6  (a:OA) (d:Int) (e:Bool) (h:Hp) (R:RP):Prop:=bX e (R (vt #[vp none,vi 60]:Value) h) (bq PG 90 #[vp a,vu d] h fun r b=>∃c:Int,∃f:Int,r=vt #[vi c,vi f]∧gi (b.push (.cells #[vp a,vi c] 105)) fun g=>R ((vt #[vp (some (nb b)),vi 0]:Value)) g)
def ain(a:OA)(b:Int)(h:Hp)(R:RP):Prop:=bq PG 89 #[vp a,vu b] h fun r c=>∃d:Int,∃f:Int,∃g:Int,∃e:Int,r=vt #[vi d,vi f,vi g,vi e]∧bX (e != (0:Int)) (H6  a b true c R) (H6  a b (d != (4:Int)) c R)
theorem Rv {a0:OA}{a1:Int}{h:Hp}{R:RP}(hF:ain a0 a1 h R):bq PG 45 #[vp a0,vu a1] h R:=iY (lv:=kw) Tryz.func45 hF
def aim(a:OA)(h:Hp)(R:RP):Prop:=bE a fun e=>∃b:OA,cell h e=some (vp b)∧bE a fun f=>∃c:Int,cell h (f.add 1)=some (vi c)∧∃d:Int,∃g:Int,bq PG 91 #[vp b,vi c] h (fun v h'=>v=(vt #[vu d,vi g])∧h'=h)∧R (vu d:Value) h
theorem Ru {a0:OA}{h:Hp}{R:RP}(hF:aim a0 h R):bq PG 46 #[vp a0] h R:=iY (lv:=kw) Tryz.func46 hF
def IZ(m:Nat):LN:=if m=8 then [0,3,4,6,7]else if m=11 then [0,3,4,6,7,8]else []
def aet(J:Nat→OA→Int→Int→Int→Int→Hp→Prop):Nat→LV→Hp→Prop:=IL 79 [(0,.p),(3,.i .u64),(4,.i .i64),(6,.i .i64),(7,.i .i64)] J
def Xg(J1:Nat→OA→Int→Int→Int→Int→Hp→Prop)(n1:Nat)(a:OA)(e f c d:Int)(g:Nat→Value)(h:Hp)(R:RP):Prop:=bX (decide (d<c)) (bq PG 69 #[vp a,vu e,vi d] h fun r n=>∃i:Int,r=vu i∧dO (kJ PG fN IZ (sub [1,1,1,1,1,1,0,1,0,0,1,0,0,0,1,0,0] (bd Tryz.f47))) (dW PG fN IZ [1,1,1,1,1,1,0,1,0,0,1,0,0,0,1,0] (bd Tryz.f47) [sS (aet J1) n1] (eJ PG Tryz.f47 [] R)) [(0,vp a),(3,vu e),(4,vi f),(6,vi c),(7,vi d),(8,vu i)] 79 n) (bX (c==f) (bE a fun o=>∃j:OA,cell h o=some (vp j)∧∃k:Int,bq PG 46 #[vp a] h (fun v h'=>v=(vu k)∧h'=h)∧bq PG 92 #[vp j,vu k,vi 1,vu 0] h fun r b=>∃p:Int,r=vi p∧bE a fun q=>∃l:OA,cell b q=some (vp l)∧∃m:Int,bq PG 46 #[vp a] b (fun v h'=>v=(vu m)∧h'=b)∧bq PG 92 #[vp l,vu m,vi 4,vu 0] b fun r s=>∃t:Int,r=vi t∧R (vb true:Value) s) (R (vb true:Value) h))
abbrev aoh(R:RP)(a:OA)(b c d e:Int)(f:Hp):Prop:=dO (kJ PG fN IZ (sub [1,1,1,1,1,1,0,1,0,0] (bd Tryz.f47))) (dW PG fN IZ [1,1,1,1,1,1,0,1,0] (bd Tryz.f47) [] (eJ PG Tryz.f47 [] R)) [(0,vp a),(3,vu b),(4,vi c),(6,vi d),(7,vi e)] 79 f
theorem OX {R:RP}{s0:OA}{s3 s4 s6 s7:Int}{h0:Hp}(J:Nat→OA→Int→Int→Int→Int→Hp→Prop)(n0:Nat)(hi:J n0 s0 s3 s4 s6 s7 h0)(hr:∀n s0 s3 s4 s6 s7 g h,J n s0 s3 s4 s6 s7 h→Xg  J n s0 s3 s4 s6 s7 g h R):aoh R s0 s3 s4 s6 s7 h0:=iz (l:=[(0,.p),(3,.i .u64),(4,.i .i64),(6,.i .i64),(7,.i .i64)]) (J:=J) (n0:=n0) (s0,s3,s4,s6,s7,()) hi (fun n s0 s3 s4 s6 s7 g h=>Xg  J n s0 s3 s4 s6 s7 g h R) hr
def Xf(J1:Nat→OA→Int→Int→Int→Int→Hp→Prop)(n1:Nat)(J2:Nat→OA→Int→Int→Int→Int→Int→Hp→Prop)(n2:Nat)(a:OA)(c e f d b:Int)(g:Nat→Value)(h:Hp)(R:RP):Prop:=bX (b != (0:Int)) (bq PG 69 #[vp a,vu b,vi 0] h fun r l=>∃i:Int,r=vu i∧bq PG 69 #[vp a,vu b,vi 3] l fun r n=>∃j:Int,r=vu j∧bq PG 93 #[vp a,vu b,vu j] n fun r o=>r=vt #[]∧∃m,m<n2∧J2 m a c e f d i o) (bE a fun p=>∃k:OA,cell h p=some (vp k)∧bq PG 92 #[vp k,vu c,vi d,vu 0] h fun r q=>∃s:Int,r=vi s∧∃m,m<n1∧J1 m a c e f (wrap .i64 (d+(1:Int))) q)
abbrev aog(J1:Nat→OA→Int→Int→Int→Int→Hp→Prop)(n1:Nat)(R:RP)(a:OA)(b c d e f:Int)(g:Hp):Prop:=dO (kJ PG fN IZ (sub [1,1,1,1,1,1,0,1,0,0,1,0,0,0,1,0,0] (bd Tryz.f47))) (dW PG fN IZ [1,1,1,1,1,1,0,1,0,0,1,0,0,0,1,0] (bd Tryz.f47) [sS (aet J1) n1] (eJ PG Tryz.f47 [] R)) [(0,vp a),(3,vu b),(4,vi c),(6,vi d),(7,vi e),(8,vu f)] 79 g
theorem OW {J1:Nat→OA→Int→Int→Int→Int→Hp→Prop}{n1:Nat}{R:RP}{s0:OA}{s3 s4 s6 s7 s8:Int}{h0:Hp}(J:Nat→OA→Int→Int→Int→Int→Int→Hp→Prop)(n0:Nat)(hi:J n0 s0 s3 s4 s6 s7 s8 h0)(hr:∀n s0 s3 s4 s6 s7 s8 g h,J n s0 s3 s4 s6 s7 s8 h→Xf J1 n1 J n s0 s3 s4 s6 s7 s8 g h R):aog J1 n1 R s0 s3 s4 s6 s7 s8 h0:=iz (l:=[(0,.p),(3,.i .u64),(4,.i .i64),(6,.i .i64),(7,.i .i64),(8,.i .u64)]) (J:=J) (n0:=n0) (s0,s3,s4,s6,s7,s8,()) hi (fun n s0 s3 s4 s6 s7 s8 g h=>Xf J1 n1 J n s0 s3 s4 s6 s7 s8 g h R) hr
def ail(a:OA)(h:Hp)(R:RP):Prop:=bq PG 61 #[vp a,vi 1] h fun r f=>∃d:Int,r=vu d∧bX (d==(0:Int)) (R (vb false:Value) f) (bq PG 88 #[vp a,vu d] f fun r j=>∃b:Int,r=vi b∧bq PG 61 #[vp a,vi 4] j fun r e=>∃c:Int,r=vu c∧bE a fun k=>∃g:OA,cell e k=some (vp g)∧∃i:Int,bq PG 46 #[vp a] e (fun v h'=>v=(vu i)∧h'=e)∧bq PG 92 #[vp g,vu i,vi 4,vu (wrap .u64 (if(wrap .i64 ((wrap .i64 c)+(16:Int)))<b then(wrap .i64 ((wrap .i64 c)+(16:Int)))else b))] e fun r l=>∃m:Int,r=vi m∧dO (kJ PG fN IZ (sub [1,1,1,1,1,1,0,1,0,0] (bd Tryz.f47))) (dW PG fN IZ [1,1,1,1,1,1,0,1,0] (bd Tryz.f47) [] (eJ PG Tryz.f47 [] R)) [(0,vp a),(3,vu d),(4,vi b),(6,vi (if(wrap .i64 ((wrap .i64 c)+(16:Int)))<b then(wrap .i64 ((wrap .i64 c)+(16:Int)))else b)),(7,vi (wrap .i64 c))] 79 l)
theorem Rt {a0:OA}{h:Hp}{R:RP}(hF:ail a0 h R):bq PG 47 #[vp a0] h R:=iY (lv:=IZ) Tryz.func47 hF
def Tq(b:OA)(d:Sl)(x y z:Int)(h:Hp)(R:RP):Prop:=bE b fun Z=>∃A:Int,cell h (Z.add 1)=some (vi A)∧bX (A==(0:Int)) (R (vt #[vb false,vi 61]:Value) h) (bX (decide ((d.n:Int)>(4096:Int))) (R (vt #[vb false,vi 62]:Value) h) (bE b fun aa=>∃B:OA,cell h aa=some (vp B)∧bq PG 90 #[vp B,vu x] h fun r l=>∃e:Int,∃C:Int,r=vt #[vi e,vi C]∧bX (C != (0:Int)) (R (vt #[vb false,vi 32]:Value) l) (bE b fun ab=>∃f:OA,cell l ab=some (vp f)∧bq PG 47 #[vp b] l fun r ac=>∃ad:Bool,r=vb ad∧bq PG 61 #[vp b,vi 2] ac fun r ae=>∃D:Int,r=vu D∧bq PG 68 #[vu D,.slice d.a d.n d.c] ae fun r af=>∃i:Int,r=vu i∧bq PG 67 #[vp b,vu i,.slice d.a d.n d.c] af fun r j=>∃ag:Int,∃ah:Int,∃m:Int,r=vt #[vu ag,vi ah,vu m]∧bX (m != (0:Int)) (bq PG 94 #[vp b,vu m,vu x,vu y,vu z] j fun r ai=>r=vt #[]∧qM PG 84 #[vp f,vi e] ai fun _ aj=>R (vt #[vb false,vi 0]:Value) aj) (bE b fun ak=>∃E:OA,cell j ak=some (vp E)∧gi (j.push (.cells #[.slice d.a d.n d.c] 39)) fun al=>bq PG 95 #[vp E,.slice (some (nb j)) 1 1] al fun r o=>∃F:Int,∃p:Int,r=vt #[vu F,vi p]∧bX (p != (0:Int)) (qM PG 84 #[vp f,vi e] o fun _ am=>R (vt #[vb false,vi p]:Value) am) (bE b fun an=>∃G:OA,cell o an=some (vp G)∧bq PG 90 #[vp G,vu F] o fun r H=>∃q:Int,∃ao:Int,r=vt #[vi q,vi ao]∧bE b fun ap=>∃I:OA,cell H ap=some (vp I)∧bq PG 96 #[vp I,vi 6,vi 3,vi 3] H fun r J=>∃g:Int,∃s:Int,r=vt #[vu g,vi s]∧bE b fun aq=>∃K:OA,cell J aq=some (vp K)∧bq PG 91 #[vp K,vi q] J fun r L=>∃M:Int,∃ar:Int,r=vt #[vu M,vi ar]∧bE b fun au=>∃N:OA,cell L au=some (vp N)∧bq PG 84 #[vp N,vi q] L fun r t=>∃av:Int,r=vi av∧bX (s != (0:Int)) (qM PG 84 #[vp f,vi e] t fun _ aw=>R (vt #[vb false,vi s]:Value) aw) (bE b fun ax=>∃O:OA,cell t ax=some (vp O)∧bq PG 91 #[vp O,vi e] t fun r P=>∃Q:Int,∃ay:Int,r=vt #[vu Q,vi ay]∧bE b fun az=>∃S:OA,cell P az=some (vp S)∧bq PG 92 #[vp S,vu g,vi 1,vu M] P fun r T=>∃aA:Int,r=vi aA∧bE b fun aB=>∃U:OA,cell T aB=some (vp U)∧bq PG 92 #[vp U,vu g,vi 3,vu i] T fun r aC=>∃aD:Int,r=vi aD∧bq PG 94 #[vp b,vu g,vu Q,vu y,vu z] aC fun r aE=>r=vt #[]∧bq PG 93 #[vp b,vu g,vu i] aE fun r aF=>r=vt #[]∧bq PG 24 #[vp b] aF fun r k=>∃u:Int,r=vi u∧bE b fun aG=>∃V:OA,cell k aG=some (vp V)∧∃W:Int,bq PG 46 #[vp b] k (fun v h'=>v=(vu W)∧h'=k)∧bq PG 92 #[vp V,vu W,vi 3,vu (wrap .u64 (wrap .i64 (u+(1:Int))))] k fun r aH=>∃aI:Int,r=vi aI∧bq PG 61 #[vp b,vi 0] aH fun r aJ=>∃X:Int,r=vu X∧bq PG 88 #[vp b,vu X] aJ fun r Y=>∃w:Int,r=vi w∧bX (decide ((wrap .i64 (u+(1:Int)))>w)) (bq PG 97 #[vp b,vi (wrap .i64 ((2:Int)*w))] Y fun r aK=>r=vt #[]∧qM PG 84 #[vp f,vi e] aK fun _ aL=>R (vt #[vb true,vi 0]:Value) aL) (qM PG 84 #[vp f,vi e] Y fun _ aM=>R (vt #[vb true,vi 0]:Value) aM)))))))
theorem acb(a0:OA)(a1:Sl)(a2 a3 a4:Int)(h:Hp)(R:RP):aow PG fN kw Tryz.f48 (bd Tryz.f48) [] [vp a0,.slice a1.a a1.n a1.c,vu a2,vu a3,vu a4] h R=Tq a0 a1 a2 a3 a4 h R:=by kernel_rfl
theorem DN {a0:OA}{a1:Sl}{a2 a3 a4:Int}{h:Hp}{R:RP}(hF:Tq a0 a1 a2 a3 a4 h R):bq PG 48 #[vp a0,vl a1,vu a2,vu a3,vu a4] h R :=
 Hc (lv:=kw) (ik:=[]) (c:=(bd Tryz.f48)) (args:=[vp a0,.slice a1.a a1.n a1.c,vu a2,vu a3,vu a4]) mixed mh Tryz.func48 (by kernel_rfl) (by kernel_rfl) (by rw [acb];exact hF)
def Rr  (a:OA) (b:Int) (c:Bool) (h:Hp) (R:RP):Prop:=bX c ((2:Int)≠0∧bq PG 97 #[vp a,vi (wrap .i64 (Int.tdiv b (2:Int)))] h fun r d=>r=vt #[]∧R (vi 0:Value) d) (R (vi 0:Value) h)
def aik(b:OA)(d:Sl)(h:Hp)(R:RP):Prop:=bE b fun A=>∃l:Int,cell h (A.add 1)=some (vi l)∧bX (l==(0:Int)) (R (vi 61:Value) h) (bq PG 47 #[vp b] h fun r B=>∃C:Bool,r=vb C∧bq PG 61 #[vp b,vi 2] B fun r D=>∃m:Int,r=vu m∧bq PG 68 #[vu m,.slice d.a d.n d.c] D fun r E=>∃o:Int,r=vu o∧bq PG 67 #[vp b,vu o,.slice d.a d.n d.c] E fun r g=>∃p:Int,∃q:Int,∃i:Int,r=vt #[vu p,vi q,vu i]∧bX (i==(0:Int)) (R (vi 63:Value) g) (bE b fun s=>∃j:OA,cell g s=some (vp j)∧bq PG 69 #[vp b,vu i,vi 0] g fun r t=>∃u:Int,r=vu u∧CP t s j∧bq PG 92 #[vp j,vu p,vi q,vu u] t fun r F=>∃G:Int,r=vi G∧bq PG 24 #[vp b] F fun r f=>∃k:Int,r=vi k∧bE b fun H=>∃w:OA,cell f H=some (vp w)∧∃x:Int,bq PG 46 #[vp b] f (fun v h'=>v=(vu x)∧h'=f)∧bq PG 92 #[vp w,vu x,vi 3,vu (wrap .u64 (wrap .i64 (k-(1:Int))))] f fun r I=>∃J:Int,r=vi J∧bq PG 61 #[vp b,vi 0] I fun r K=>∃y:Int,r=vu y∧bq PG 88 #[vp b,vu y] K fun r z=>∃e:Int,r=vi e∧bX (decide (e>(4:Int))) (Rr  b e (decide ((wrap .i64 ((4:Int)*(wrap .i64 (k-(1:Int)))))<e)) z R) (Rr  b e false z R)))
theorem Rs {a0:OA}{a1:Sl}{h:Hp}{R:RP}(hF:aik a0 a1 h R):bq PG 49 #[vp a0,vl a1] h R:=iY (lv:=kw) Tryz.func49 hF
def aof(a:OA)(h:Hp)(R:RP):Prop:=gi (h.push (.cells #[vp a] 32)) fun b=>R ((.func (.func 98) #[] #[vp (some (nb h))]:Value)) b
theorem aca {a0:OA}{h:Hp}{R:RP}(hF:aof a0 h R):bq PG 50 #[vp a0] h R:=iY (lv:=kw) Tryz.func50 hF
def aoa(a:OA)(k:Int)(h:Hp)(R:RP):Prop:=bq PG 96 #[vp a,vi 4,vi 2,vi 3] h fun r g=>∃c:Int,∃d:Int,r=vt #[vu c,vi d]∧bX (d != (0:Int)) (R (vt #[vp none,vi d]:Value) g) (bq PG 92 #[vp a,vu c,vi 2,vu k] g fun r l=>∃m:Int,r=vi m∧bq PG 90 #[vp a,vu c] l fun r n=>∃e:Int,∃o:Int,r=vt #[vi e,vi o]∧bq PG 96 #[vp a,vi 5,vi 4,vi 0] n fun r b=>∃i:Int,∃f:Int,r=vt #[vu i,vi f]∧bX (f != (0:Int)) (bq PG 84 #[vp a,vi e] b fun r p=>∃q:Int,r=vi q∧R (vt #[vp none,vi f]:Value) p) (gi (b.push (.cells #[vp a,vi e] 105)) fun s=>bq PG 46 #[vp (some (nb b))] s fun r t=>∃j:Int,r=vu j∧bq PG 92 #[vp a,vu j,vi 0,vu i] t fun r u=>∃v:Int,r=vi v∧R ((vt #[vp (some (nb b)),vi 0]:Value)) u))
theorem ab5 {a0:OA}{a1:Int}{h:Hp}{R:RP}(hF:aoa a0 a1 h R):bq PG 58 #[vp a0,vu a1] h R:=iY (lv:=kw) Tryz.func58 hF
def Xd(a:OA)(d:Int)(h:Hp)(R:RP):Prop:=bq PG 46 #[vp a] h fun r e=>∃b:Int,r=vu b∧bq PG 69 #[vp a,vu b,vi d] e fun r f=>∃c:Int,r=vu c∧R (vu c:Value) f
theorem DM {a0:OA}{a1:Int}{h:Hp}{R:RP}(hF:Xd a0 a1 h R):bq PG 61 #[vp a0,vi a1] h R:=iY (lv:=kw) Tryz.func61 hF
def an6(b:OA)(c:Int)(h:Hp)(R:RP):Prop:=gi (h.push (.cells #[vp b] 32)) fun a=>gi (a.push (.cells #[vu c] 27)) fun d=>R ((.func (.func 107) #[] #[vp (some (nb h)),vp (some (nb a))]:Value)) d
theorem ab2 {a0:OA}{a1:Int}{h:Hp}{R:RP}(hF:an6 a0 a1 h R):bq PG 63 #[vp a0,vu a1] h R:=iY (lv:=kw) Tryz.func63 hF
def an5(b:Sl)(d:Value)(h:Hp)(R:RP):Prop:=bq PG 112 #[.slice b.a b.n b.c,d] h fun r e=>r=vt #[]∧R (.slice b.a b.n b.c:Value) e
theorem ab1 {a0:Sl}{a1:Value}{h:Hp}{R:RP}(hF:an5 a0 a1 h R):bq PG 64 #[vl a0,a1] h R:=iY (lv:=kw) Tryz.func64 hF
def V1(m:Nat):LN:=if m=2 then [0,1,2,6,7]else []
def Xb(J1:Nat→OA→Int→Sl→Int→Int→Hp→Prop)(n1:Nat)(d:OA)(f:Int)(e:Sl)(i j:Int)(g:Nat→Value)(h:Hp)(R:RP):Prop:=bq PG 69 #[vp d,vu i,vi j] h fun r o=>∃b:Int,r=vu b∧bX (b==(0:Int)) (R (vt #[vu i,vi j,vu 0]:Value) o) (bq PG 69 #[vp d,vu b,vi 3] o fun r k=>∃p:Int,r=vu p∧bX (p==f) (bE d fun q=>∃l:OA,cell k q=some (vp l)∧bq PG 69 #[vp d,vu b,vi 1] k fun r s=>∃t:Int,r=vu t∧CP s q l∧bq PG 115 #[vp l,vu t,.slice e.a e.n e.c] s fun r u=>∃v:Int,∃w:Int,r=vt #[vi v,vi w]∧bX (v==(0:Int)) (R (vt #[vu i,vi j,vu b]:Value) u) (∃m,m<n1∧J1 m d f e b (0:Int) u)) (∃m,m<n1∧J1 m d f e b (0:Int) k))
abbrev an0(R:RP)(a:OA)(b:Int)(s2a:OA)(s2n s2c:Nat)(c d:Int)(e:Hp):Prop:=dO (kJ PG fN V1 (sub [1,1,0,0] (bd Tryz.f67))) (dW PG fN V1 [1,1,0] (bd Tryz.f67) [] (eJ PG Tryz.f67 [] R)) [(0,vp a),(1,vu b),(2,.slice s2a s2n s2c),(6,vu c),(7,vi d)] 48 e
theorem OU {R:RP}{s0:OA}{s1:Int}{s2:Sl}{s6 s7:Int}{h0:Hp}(J:Nat→OA→Int→Sl→Int→Int→Hp→Prop)(n0:Nat)(hi:J n0 s0 s1 s2 s6 s7 h0)(hr:∀n s0 s1 s2 s6 s7 g h,J n s0 s1 s2 s6 s7 h→Xb  J n s0 s1 s2 s6 s7 g h R):an0 R s0 s1 s2.a s2.n s2.c s6 s7 h0:=iz (l:=[(0,.p),(1,.i .u64),(2,.l),(6,.i .u64),(7,.i .i64)]) (J:=J) (n0:=n0) (s0,s1,s2,s6,s7,()) hi (fun n s0 s1 s2 s6 s7 g h=>Xb  J n s0 s1 s2 s6 s7 g h R) hr
def anZ(d:OA)(e:Int)(b:Sl)(h:Hp)(R:RP):Prop:=bq PG 114 #[vp d,vu e] h fun r i=>∃f:Int,∃g:Int,r=vt #[vu f,vi g]∧dO (kJ PG fN V1 (sub [1,1,0,0] (bd Tryz.f67))) (dW PG fN V1 [1,1,0] (bd Tryz.f67) [] (eJ PG Tryz.f67 [] R)) [(0,vp d),(1,vu e),(2,.slice b.a b.n b.c),(6,vu f),(7,vi g)] 48 i
theorem abY {a0:OA}{a1:Int}{a2:Sl}{h:Hp}{R:RP}(hF:anZ a0 a1 a2 h R):bq PG 67 #[vp a0,vu a1,vl a2] h R:=iY (lv:=V1) Tryz.func67 hF
def abW(c:OA)(d e:Int)(h:Hp)(R:RP):Prop:=bE c fun f=>∃a:OA,cell h f=some (vp a)∧bq PG 72 #[vp a,vu d,vi e] h fun r g=>∃b:Int,∃i:Int,r=vt #[vu b,vi i]∧R (vu b:Value) g
theorem Jp {a0:OA}{a1 a2:Int}{h:Hp}{R:RP}(hF:abW a0 a1 a2 h R):bq PG 69 #[vp a0,vu a1,vi a2] h R:=iY (lv:=kw) Tryz.func69 hF
def aij(c:OA)(d:Int)(h:Hp)(R:RP):Prop:=bE c fun e=>∃a:OA,cell h e=some (vp a)∧bq PG 89 #[vp a,vu d] h fun r f=>∃g:Int,∃b:Int,∃i:Int,∃j:Int,r=vt #[vi g,vi b,vi i,vi j]∧R (vi b:Value) f
theorem Rl {a0:OA}{a1:Int}{h:Hp}{R:RP}(hF:aij a0 a1 h R):bq PG 88 #[vp a0,vu a1] h R:=iY (lv:=kw) Tryz.func88 hF
def anI(a:OA)(e m:Int)(h:Hp)(R:RP):Prop:=bq PG 114 #[vp a,vu m] h fun r f=>∃b:Int,∃c:Int,r=vt #[vu b,vi c]∧bE a fun g=>∃d:OA,cell f g=some (vp d)∧bq PG 69 #[vp a,vu b,vi c] f fun r i=>∃j:Int,r=vu j∧CP i g d∧bq PG 92 #[vp d,vu e,vi 0,vu j] i fun r k=>∃n:Int,r=vi n∧bE a fun o=>∃l:OA,cell k o=some (vp l)∧bq PG 92 #[vp l,vu b,vi c,vu e] k fun r p=>∃q:Int,r=vi q∧R (vt #[]:Value) p
theorem abJ {a0:OA}{a1 a2:Int}{h:Hp}{R:RP}(hF:anI a0 a1 a2 h R):bq PG 93 #[vp a0,vu a1,vu a2] h R:=iY (lv:=kw) Tryz.func93 hF
def anH(a:OA)(b i j k:Int)(h:Hp)(R:RP):Prop:=bE a fun l=>∃c:OA,cell h l=some (vp c)∧bq PG 92 #[vp c,vu b,vi 2,vu i] h fun r d=>∃m:Int,r=vi m∧bE a fun n=>∃e:OA,cell d n=some (vp e)∧bq PG 92 #[vp e,vu b,vi 4,vu j] d fun r f=>∃o:Int,r=vi o∧bE a fun p=>∃g:OA,cell f p=some (vp g)∧bq PG 92 #[vp g,vu b,vi 5,vu k] f fun r q=>∃s:Int,r=vi s∧R (vt #[]:Value) q
theorem abI {a0:OA}{a1 a2 a3 a4:Int}{h:Hp}{R:RP}(hF:anH a0 a1 a2 a3 a4 h R):bq PG 94 #[vp a0,vu a1,vu a2,vu a3,vu a4] h R:=iY (lv:=kw) Tryz.func94 hF
def anC(a:OA)(u:Int)(h:Hp)(R:RP):Prop:=bq PG 61 #[vp a,vi 1] h fun r e=>∃g:Int,r=vu g∧bX (g != (0:Int)) (R (vt #[]:Value) e) (bE a fun w=>∃i:OA,cell e w=some (vp i)∧bq PG 96 #[vp i,vi 5,vi u,vi 0] e fun r b=>∃j:Int,∃k:Int,r=vt #[vu j,vi k]∧bX (k != (0:Int)) (R (vt #[]:Value) b) (bE a fun l=>∃f:OA,cell b l=some (vp f)∧∃m:Int,bq PG 46 #[vp a] b (fun v h'=>v=(vu m)∧h'=b)∧bq PG 61 #[vp a,vi 0] b fun r n=>∃o:Int,r=vu o∧CP n l f∧bq PG 92 #[vp f,vu m,vi 1,vu o] n fun r c=>∃x:Int,r=vi x∧bE a fun y=>∃p:OA,cell c y=some (vp p)∧∃q:Int,bq PG 46 #[vp a] c (fun v h'=>v=(vu q)∧h'=c)∧bq PG 92 #[vp p,vu q,vi 0,vu j] c fun r d=>∃z:Int,r=vi z∧bE a fun A=>∃s:OA,cell d A=some (vp s)∧∃t:Int,bq PG 46 #[vp a] d (fun v h'=>v=(vu t)∧h'=d)∧bq PG 92 #[vp s,vu t,vi 4,vu 0] d fun r B=>∃C:Int,r=vi C∧R (vt #[]:Value) B))
theorem abF {a0:OA}{a1:Int}{h:Hp}{R:RP}(hF:anC a0 a1 h R):bq PG 97 #[vp a0,vi a1] h R:=iY (lv:=kw) Tryz.func97 hF
def SX(m:Nat):LN:=if m=2 then [0,14,15,16]else []
def Rj(J1:Nat→Value→Sl→Int→Int→Hp→Prop)(n1:Nat)(f:Value)(e:Sl)(i d:Int)(g:Nat→Value)(h:Hp)(R:RP):Prop:=bX (decide (d<i)) ((0≤d∧d<(e.n:Int))∧bE e.a fun l=>∃b:Sl,cell h (l.add (d.toNat*1))=some (.slice b.a b.n b.c)∧ajq PG f [.slice b.a b.n b.c] h fun r j=>∃k:Bool,r=vb k∧bX (!k) (R (vt #[]:Value) j) (∃m,m<n1∧J1 m f e i (wrap .i64 (d+(1:Int))) j)) (R (vt #[]:Value) h)
abbrev anB(R:RP)(a:Value)(aq3:OA)(aq1 aq2:Nat)(b c:Int)(d:Hp):Prop:=dO (uw PG fN SX (sub [1,1,0,0] (bd Tryz.f98))) (lM PG fN SX [1,1,0] (bd Tryz.f98) [] (eJ PG Tryz.f98 [] R)) [(0,a),(14,.slice aq3 aq1 aq2),(15,vi b),(16,vi c)] 25 d
theorem Ft {R:RP}{s0:Value}{uP:Sl}{qS wJ:Int}{h0:Hp}(J:Nat→Value→Sl→Int→Int→Hp→Prop)(n0:Nat)(hi:J n0 s0 uP qS wJ h0)(hr:∀n s0 uP qS wJ g h,J n s0 uP qS wJ h→Rj  J n s0 uP qS wJ g h R):anB R s0 uP.a uP.n uP.c qS wJ h0:=iz (l:=[(0,.v),(14,.l),(15,.i .i64),(16,.i .i64)]) (J:=J) (n0:=n0) (s0,uP,qS,wJ,()) hi (fun n s0 uP qS wJ g h=>Rj  J n s0 uP qS wJ g h R) hr
def abE(i:Value)(c0:Addr)(h:Hp)(R:RP):Prop:=∃d:OA,cell h c0=some (vp d)∧∃e:OA,cell h c0=some (vp e)∧bq PG 24 #[vp e] h fun r f=>∃g:Int,r=vi g∧CP f c0 d∧bq PG 30 #[vp d,vu 0,vi g] f fun r j=>∃k:Int,∃b:Sl,r=vt #[vu k,.slice b.a b.n b.c]∧dO (uw PG fN SX (sub [1,1,0,0] (bd Tryz.f98))) (lM PG fN SX [1,1,0] (bd Tryz.f98) [] (eJ PG Tryz.f98 [] R)) [(0,i),(14,.slice b.a b.n b.c),(15,vi (b.n:Int)),(16,vi 0)] 25 j
theorem abD(a0:Value)(c0:Addr)(h:Hp)(R:RP):aiQ PG fN SX Tryz.f98 (bd Tryz.f98) [] [a0,vp (some c0)] h R=abE a0 c0 h R:=by kernel_rfl
theorem Rk {a0:Value}{c0:Addr}{h:Hp}{R:RP}(hF:abE a0 c0 h R):bq PG 98 #[a0,vp (some c0)] h R :=
 zG (lv:=SX) (ik:=[]) (c:=(bd Tryz.f98)) (args:=[a0,vp (some c0)]) mixed mh Tryz.func98 (by kernel_rfl) (by kernel_rfl) (by kernel_rfl) (by rw [abD];exact hF)
def pU(m:Nat):LN:=if m=8 then [0,1,2,4,5,7]else if m=12 then [0,1,2,4,5,7,8,49,50,51]else if m=16 then [0,1,2,4,5,7,8,10,11,12,49,50,51]else if m=21 then [0,1,2,4,5,7,78,79,80]else []
def Cl(J:Nat→Value→Addr→Addr→Sl→Int→Int→Hp→Prop):Nat→LV→Hp→Prop:=IL 95 [(0,.v),(1,.a),(2,.a),(4,.l),(5,.i .i64),(7,.i .i64)] J
def YE(J:Nat→Value→Addr→Addr→Sl→Int→Int→Sl→Sl→Int→Int→Hp→Prop):Nat→LV→Hp→Prop:=IL 95 [(0,.v),(1,.a),(2,.a),(4,.l),(5,.i .i64),(7,.i .i64),(8,.l),(49,.l),(50,.i .i64),(51,.i .i64)] J
def FE(J1:Nat→Value→Addr→Addr→Sl→Int→Int→Hp→Prop)(n1:Nat)(J4:Nat→Value→Addr→Addr→Sl→Int→Int→Sl→Int→Int→Hp→Prop)(n4:Nat)(a:Value)(b c:Addr)(d:Sl)(e f:Int)(g:Sl)(i j:Int)(k:Bool)(h:Hp)(R:RP):Prop:=bX k (R (vt #[]:Value) h) (∃m,m<n4∧J4 m a b c d e f g i (wrap .i64 (j+(1:Int))) h)
def JH  (i:Value) (j d:Addr) (b:Sl) (e:Int) (h:Hp) (R:RP):Prop:=∃f:Int,cell h d=some (vu f)∧bq PG 108 #[vu f,vi e] h fun r k=>∃g:Int,r=vi g∧dO (uw PG fN pU (sub [1,1,1,1,1,0,0] (bd Tryz.f107))) (lM PG fN pU [1,1,1,1,1,0] (bd Tryz.f107) [] (eJ PG Tryz.f107 [] R)) [(0,i),(1,vp (some j)),(2,vp (some d)),(4,.slice b.a b.n b.c),(5,vi e),(7,vi g)] 95 k
abbrev YG(J1:Nat→Value→Addr→Addr→Sl→Int→Int→Hp→Prop)(n1:Nat)(R:RP)(a:Value)(b c:Addr)(s4a:OA)(s4n s4c:Nat)(d e:Int)(s8a:OA)(s8n s8c:Nat)(agt:OA)(agr ags:Nat)(f g:Int)(h:Hp):Prop:=dO (uw PG fN pU (sub [1,1,1,1,1,0,0,1,0,0,1,0,1,0,0] (bd Tryz.f107))) (lM PG fN pU [1,1,1,1,1,0,0,1,0,0,1,0,1,0] (bd Tryz.f107) [sS (Cl J1) n1] (eJ PG Tryz.f107 [] R)) [(0,a),(1,vp (some b)),(2,vp (some c)),(4,.slice s4a s4n s4c),(5,vi d),(7,vi e),(8,.slice s8a s8n s8c),(49,.slice agt agr ags),(50,vi f),(51,vi g)] 95 h
def FD(J1:Nat→Value→Addr→Addr→Sl→Int→Int→Hp→Prop)(n1:Nat)(f:Value)(i j:Addr)(b:Sl)(d e:Int)(g:Nat→Value)(h:Hp)(R:RP):Prop:=bX (decide (e<d)) (YG J1 n1 R f i j b.a b.n b.c d e none 0 0 b.a b.n b.c (b.n:Int) 0 h) (R (vt #[]:Value) h)
abbrev aiM(R:RP)(a:Value)(b c:Addr)(s4a:OA)(s4n s4c:Nat)(d e:Int)(f:Hp):Prop:=dO (uw PG fN pU (sub [1,1,1,1,1,0,0] (bd Tryz.f107))) (lM PG fN pU [1,1,1,1,1,0] (bd Tryz.f107) [] (eJ PG Tryz.f107 [] R)) [(0,a),(1,vp (some b)),(2,vp (some c)),(4,.slice s4a s4n s4c),(5,vi d),(7,vi e)] 95 f
theorem MM {R:RP}{s0:Value}{s1 s2:Addr}{s4:Sl}{s5 s7:Int}{h0:Hp}(J:Nat→Value→Addr→Addr→Sl→Int→Int→Hp→Prop)(n0:Nat)(hi:J n0 s0 s1 s2 s4 s5 s7 h0)(hr:∀n s0 s1 s2 s4 s5 s7 g h,J n s0 s1 s2 s4 s5 s7 h→FD  J n s0 s1 s2 s4 s5 s7 g h R):aiM R s0 s1 s2 s4.a s4.n s4.c s5 s7 h0:=iz (l:=[(0,.v),(1,.a),(2,.a),(4,.l),(5,.i .i64),(7,.i .i64)]) (J:=J) (n0:=n0) (s0,s1,s2,s4,s5,s7,()) hi (fun n s0 s1 s2 s4 s5 s7 g h=>FD  J n s0 s1 s2 s4 s5 s7 g h R) hr
def Pu(J1:Nat→Value→Addr→Addr→Sl→Int→Int→Hp→Prop)(n1:Nat)(J2:Nat→Value→Addr→Addr→Sl→Int→Int→Sl→Sl→Int→Int→Hp→Prop)(n2:Nat)(p:Value)(k q:Addr)(d:Sl)(f l:Int)(e i:Sl)(s j:Int)(g:Nat→Value)(h:Hp)(R:RP):Prop:=bX (decide (j<s)) ((0≤j∧j<(i.n:Int))∧bE i.a fun u=>∃m:Int,cell h (u.add (j.toNat*1))=some (vu m)∧∃t:OA,cell h k=some (vp t)∧bq PG 88 #[vp t,vu m] h fun r v=>∃o:Int,r=vi o∧f≠0∧dO (uw PG fN pU (sub [1,1,1,1,1,0,0,1,0,0,1,0,1,0,0,1,1,0,0,1,1,1,0,0] (bd Tryz.f107))) (lM PG fN pU [1,1,1,1,1,0,0,1,0,0,1,0,1,0,0,1,1,0,0,1,1,1,0] (bd Tryz.f107) [sS (Cl J1) n1,sS (YE J2) n2] (eJ PG Tryz.f107 [] R)) [(0,p),(1,vp (some k)),(2,vp (some q)),(4,.slice d.a d.n d.c),(5,vi f),(7,vi l),(8,.slice e.a e.n e.c),(10,vu m),(11,vi (wrap .i64 (Int.tdiv o f))),(12,vi (wrap .i64 (l*(wrap .i64 (Int.tdiv o f))))),(49,.slice i.a i.n i.c),(50,vi s),(51,vi j)] 95 v) (bq PG 110 #[.slice e.a e.n e.c,.func (.func 111) #[] #[]] h fun r w=>∃b:Sl,r=.slice b.a b.n b.c∧dO (uw PG fN pU (sub [1,1,1,1,1,0,0,1,0,0,1,1,1,0,0] (bd Tryz.f107))) (lM PG fN pU [1,1,1,1,1,0,0,1,0,0,1,1,1,0] (bd Tryz.f107) [sS (Cl J1) n1] (eJ PG Tryz.f107 [] R)) [(0,p),(1,vp (some k)),(2,vp (some q)),(4,.slice d.a d.n d.c),(5,vi f),(7,vi l),(78,.slice b.a b.n b.c),(79,vi (b.n:Int)),(80,vi 0)] 95 w)
theorem ML {J1:Nat→Value→Addr→Addr→Sl→Int→Int→Hp→Prop}{n1:Nat}{R:RP}{s0:Value}{s1 s2:Addr}{s4:Sl}{s5 s7:Int}{s8 A0:Sl}{Et Es:Int}{h0:Hp}(J:Nat→Value→Addr→Addr→Sl→Int→Int→Sl→Sl→Int→Int→Hp→Prop)(n0:Nat)(hi:J n0 s0 s1 s2 s4 s5 s7 s8 A0 Et Es h0)(hr:∀n s0 s1 s2 s4 s5 s7 s8 A0 Et Es g h,J n s0 s1 s2 s4 s5 s7 s8 A0 Et Es h→Pu J1 n1 J n s0 s1 s2 s4 s5 s7 s8 A0 Et Es g h R):YG J1 n1 R s0 s1 s2 s4.a s4.n s4.c s5 s7 s8.a s8.n s8.c A0.a A0.n A0.c Et Es h0:=iz (l:=[(0,.v),(1,.a),(2,.a),(4,.l),(5,.i .i64),(7,.i .i64),(8,.l),(49,.l),(50,.i .i64),(51,.i .i64)]) (J:=J) (n0:=n0) (s0,s1,s2,s4,s5,s7,s8,A0,Et,Es,()) hi (fun n s0 s1 s2 s4 s5 s7 s8 A0 Et Es g h=>Pu J1 n1 J n s0 s1 s2 s4 s5 s7 s8 A0 Et Es g h R) hr
def Pt(J1:Nat→Value→Addr→Addr→Sl→Int→Int→Hp→Prop)(n1:Nat)(J2:Nat→Value→Addr→Addr→Sl→Int→Int→Sl→Sl→Int→Int→Hp→Prop)(n2:Nat)(J3:Nat→Value→Addr→Addr→Sl→Int→Int→Sl→Int→Int→Int→Sl→Int→Int→Hp→Prop)(n3:Nat)(j:Value)(e k:Addr)(l:Sl)(o f:Int)(b:Sl)(p q i:Int)(s:Sl)(t u:Int)(g:Nat→Value)(h:Hp)(R:RP):Prop:=bX (decide (i<(wrap .i64 ((wrap .i64 (f+(1:Int)))*q)))) (∃v:OA,cell h e=some (vp v)∧bq PG 109 #[vp v,.slice b.a b.n b.c,vu p,vi i] h fun r w=>∃d:Sl,r=.slice d.a d.n d.c∧∃m,m<n3∧J3 m j e k l o f d p q (wrap .i64 (i+(1:Int))) s t u w) (∃m,m<n2∧J2 m j e k l o f b s t (wrap .i64 (u+(1:Int))) h)
abbrev aiL(J1:Nat→Value→Addr→Addr→Sl→Int→Int→Hp→Prop)(n1:Nat)(J2:Nat→Value→Addr→Addr→Sl→Int→Int→Sl→Sl→Int→Int→Hp→Prop)(n2:Nat)(R:RP)(a:Value)(b c:Addr)(s4a:OA)(s4n s4c:Nat)(d e:Int)(s8a:OA)(s8n s8c:Nat)(f g h:Int)(agt:OA)(agr ags:Nat)(i j:Int)(k:Hp):Prop:=dO (uw PG fN pU (sub [1,1,1,1,1,0,0,1,0,0,1,0,1,0,0,1,1,0,0,1,1,1,0,0] (bd Tryz.f107))) (lM PG fN pU [1,1,1,1,1,0,0,1,0,0,1,0,1,0,0,1,1,0,0,1,1,1,0] (bd Tryz.f107) [sS (Cl J1) n1,sS (YE J2) n2] (eJ PG Tryz.f107 [] R)) [(0,a),(1,vp (some b)),(2,vp (some c)),(4,.slice s4a s4n s4c),(5,vi d),(7,vi e),(8,.slice s8a s8n s8c),(10,vu f),(11,vi g),(12,vi h),(49,.slice agt agr ags),(50,vi i),(51,vi j)] 95 k
theorem MK {J1:Nat→Value→Addr→Addr→Sl→Int→Int→Hp→Prop}{n1:Nat}{J2:Nat→Value→Addr→Addr→Sl→Int→Int→Sl→Sl→Int→Int→Hp→Prop}{n2:Nat}{R:RP}{s0:Value}{s1 s2:Addr}{s4:Sl}{s5 s7:Int}{s8:Sl}{oh pc rO:Int}{A0:Sl}{Et Es:Int}{h0:Hp}(J:Nat→Value→Addr→Addr→Sl→Int→Int→Sl→Int→Int→Int→Sl→Int→Int→Hp→Prop)(n0:Nat)(hi:J n0 s0 s1 s2 s4 s5 s7 s8 oh pc rO A0 Et Es h0)(hr:∀n s0 s1 s2 s4 s5 s7 s8 oh pc rO A0 Et Es g h,J n s0 s1 s2 s4 s5 s7 s8 oh pc rO A0 Et Es h→Pt J1 n1 J2 n2 J n s0 s1 s2 s4 s5 s7 s8 oh pc rO A0 Et Es g h R):aiL J1 n1 J2 n2 R s0 s1 s2 s4.a s4.n s4.c s5 s7 s8.a s8.n s8.c oh pc rO A0.a A0.n A0.c Et Es h0:=iz (l:=[(0,.v),(1,.a),(2,.a),(4,.l),(5,.i .i64),(7,.i .i64),(8,.l),(10,.i .u64),(11,.i .i64),(12,.i .i64),(49,.l),(50,.i .i64),(51,.i .i64)]) (J:=J) (n0:=n0) (s0,s1,s2,s4,s5,s7,s8,oh,pc,rO,A0,Et,Es,()) hi (fun n s0 s1 s2 s4 s5 s7 s8 oh pc rO A0 Et Es g h=>Pt J1 n1 J2 n2 J n s0 s1 s2 s4 s5 s7 s8 oh pc rO A0 Et Es g h R) hr
def Ps(J1:Nat→Value→Addr→Addr→Sl→Int→Int→Hp→Prop)(n1:Nat)(J4:Nat→Value→Addr→Addr→Sl→Int→Int→Sl→Int→Int→Hp→Prop)(n4:Nat)(i:Value)(l j:Addr)(o:Sl)(p q:Int)(k:Sl)(s b:Int)(g:Nat→Value)(h:Hp)(R:RP):Prop:=bX (decide (b<s)) ((0≤b∧b<(k.n:Int))∧bE k.a fun t=>∃u:Int,cell h (t.add (b.toNat*2))=some (vu u)∧∃d:Sl,cell h ((t.add (b.toNat*2)).add 1)=some (.slice d.a d.n d.c)∧gi (h.push (.cells #[vu 0,.slice none 0 0] 102)) fun z=>St z (nb h) (vu u) fun A=>St A ((nb h).add 1) (.slice d.a d.n d.c) fun e=>∃v:Int,cell e (nb h)=some (vu v)∧∃w:Int,cell e j=some (vu w)∧bX (decide (v≥w)) (∃x:Int,cell e (nb h)=some (vu x)∧∃f:Sl,cell e ((nb h).add 1)=some (.slice f.a f.n f.c)∧ajq PG i [.agg #[vu x,.slice f.a f.n f.c]] e fun r B=>∃y:Bool,r=vb y∧FE J1 n1 J4 n4 i l j o p q k s b (!y) B R) (FE J1 n1 J4 n4 i l j o p q k s b false e R)) (∃m,m<n1∧J1 m i l j o p (wrap .i64 (q+(1:Int))) h)
abbrev aiK(J1:Nat→Value→Addr→Addr→Sl→Int→Int→Hp→Prop)(n1:Nat)(R:RP)(a:Value)(b c:Addr)(s4a:OA)(s4n s4c:Nat)(d e:Int)(aqR:OA)(aqP aqQ:Nat)(f g:Int)(h:Hp):Prop:=dO (uw PG fN pU (sub [1,1,1,1,1,0,0,1,0,0,1,1,1,0,0] (bd Tryz.f107))) (lM PG fN pU [1,1,1,1,1,0,0,1,0,0,1,1,1,0] (bd Tryz.f107) [sS (Cl J1) n1] (eJ PG Tryz.f107 [] R)) [(0,a),(1,vp (some b)),(2,vp (some c)),(4,.slice s4a s4n s4c),(5,vi d),(7,vi e),(78,.slice aqR aqP aqQ),(79,vi f),(80,vi g)] 95 h
theorem MJ {J1:Nat→Value→Addr→Addr→Sl→Int→Int→Hp→Prop}{n1:Nat}{R:RP}{s0:Value}{s1 s2:Addr}{s4:Sl}{s5 s7:Int}{Qz:Sl}{Va U9:Int}{h0:Hp}(J:Nat→Value→Addr→Addr→Sl→Int→Int→Sl→Int→Int→Hp→Prop)(n0:Nat)(hi:J n0 s0 s1 s2 s4 s5 s7 Qz Va U9 h0)(hr:∀n s0 s1 s2 s4 s5 s7 Qz Va U9 g h,J n s0 s1 s2 s4 s5 s7 Qz Va U9 h→Ps J1 n1 J n s0 s1 s2 s4 s5 s7 Qz Va U9 g h R):aiK J1 n1 R s0 s1 s2 s4.a s4.n s4.c s5 s7 Qz.a Qz.n Qz.c Va U9 h0:=iz (l:=[(0,.v),(1,.a),(2,.a),(4,.l),(5,.i .i64),(7,.i .i64),(78,.l),(79,.i .i64),(80,.i .i64)]) (J:=J) (n0:=n0) (s0,s1,s2,s4,s5,s7,Qz,Va,U9,()) hi (fun n s0 s1 s2 s4 s5 s7 Qz Va U9 g h=>Ps J1 n1 J n s0 s1 s2 s4 s5 s7 Qz Va U9 g h R) hr
def RH(g:Value)(c0 c1:Addr)(h:Hp)(R:RP):Prop:=∃i:OA,cell h c0=some (vp i)∧bE i fun t=>∃j:Int,cell h (t.add 1)=some (vi j)∧bX (j==(0:Int)) (R (vt #[]:Value) h) (∃k:OA,cell h c0=some (vp k)∧bq PG 61 #[vp k,vi 0] h fun r a=>∃l:Int,r=vu l∧gi (a.push (.cells #[vu l] 27)) fun d=>∃m:OA,cell d c0=some (vp m)∧(0≤(0:Int)∧(0:Int)<((1:Nat):Int))∧∃n:Int,cell d ((nb a).add ((0:Int).toNat*1))=some (vu n)∧bq PG 88 #[vp m,vu n] d fun r o=>∃b:Int,r=vi b∧∃p:OA,cell o c0=some (vp p)∧bq PG 61 #[vp p,vi 1] o fun r e=>∃c:Int,r=vu c∧bX (c != (0:Int)) (gi (e.push (.cells #[vu c] 27)) fun u=>im 27 1 8 #[vu 0] (some (nb a)) 1 1 (some (nb e)) 1 u fun v w x q=>∃s:OA,cell q c0=some (vp s)∧bq PG 88 #[vp s,vu c] q fun r y=>∃f:Int,r=vi f∧JH  g c0 c1 ⟨v,w,x⟩ (if f<b then f else b) y R) (JH  g c0 c1 ⟨some (nb a),1,1⟩ b e R))
theorem YF(a0:Value)(c0 c1:Addr)(h:Hp)(R:RP):aiQ PG fN pU Tryz.f107 (bd Tryz.f107) [] [a0,vp (some c0),vp (some c1)] h R=RH a0 c0 c1 h R:=by kernel_rfl
theorem MN {a0:Value}{c0 c1:Addr}{h:Hp}{R:RP}(hF:RH a0 c0 c1 h R):bq PG 107 #[a0,vp (some c0),vp (some c1)] h R :=
 zG (lv:=pU) (ik:=[]) (c:=(bd Tryz.f107)) (args:=[a0,vp (some c0),vp (some c1)]) mixed mh Tryz.func107 (by kernel_rfl) (by kernel_rfl) (by kernel_rfl) (by rw [YF];exact hF)
def afv(b c:Int)(h:Hp)(R:RP):Prop:=bq PG 155 #[vu (wrap .u64 c)] h fun r d=>∃a:Int,r=vi a∧0≤(wrap .i64 ((64:Int)-a))∧R ((vi (wrap .i64 (Int.fdiv b (2 ^ (min (wrap .i64 ((64:Int)-a)).toNat (IntKind.bits .u64))))):Value)) d
theorem YD {a0 a1:Int}{h:Hp}{R:RP}(hF:afv a0 a1 h R):bq PG 108 #[vu a0,vi a1] h R:=iY (lv:=kw) Tryz.func108 hF
def Li(m:Nat):LN:=if m=2 then [0,1,9]else []
def Pr(J1:Nat→OA→Sl→Int→Hp→Prop)(n1:Nat)(e:OA)(b:Sl)(f:Int)(g:Nat→Value)(h:Hp)(R:RP):Prop:=bX (f != (0:Int)) (bE e fun j=>∃i:OA,cell h j=some (vp i)∧bq PG 69 #[vp e,vu f,vi 1] h fun r k=>∃l:Int,r=vu l∧CP k j i∧bq PG 156 #[vp i,vu l] k fun r s=>∃d:Sl,∃t:Int,r=vt #[.slice d.a d.n d.c,vi t]∧bq PG 69 #[vp e,vu f,vi 3] s fun r o=>∃p:Int,r=vu p∧gi (o.push (.cells #[vu p,.slice d.a d.n d.c] 102)) fun u=>im 102 2 32 #[vu 0,.slice none 0 0] b.a b.n b.c (some (nb o)) 1 u fun v w x y=>bq PG 69 #[vp e,vu f,vi 0] y fun r z=>∃q:Int,r=vu q∧∃m,m<n1∧J1 m e ⟨v,w,x⟩ q z) (R (.slice b.a b.n b.c:Value) h)
abbrev aiJ(R:RP)(a s1a:OA)(Y7 Y9:Nat)(b:Int)(c:Hp):Prop:=dO (kJ PG fN Li (sub [1,0,1,0,0] (bd Tryz.f109))) (dW PG fN Li [1,0,1,0] (bd Tryz.f109) [] (eJ PG Tryz.f109 [] R)) [(0,vp a),(1,.slice s1a Y7 Y9),(9,vu b)] 41 c
theorem MI {R:RP}{s0:OA}{s1:Sl}{s9:Int}{h0:Hp}(J:Nat→OA→Sl→Int→Hp→Prop)(n0:Nat)(hi:J n0 s0 s1 s9 h0)(hr:∀n s0 s1 s9 g h,J n s0 s1 s9 h→Pr  J n s0 s1 s9 g h R):aiJ R s0 s1.a s1.n s1.c s9 h0:=iz (l:=[(0,.p),(1,.l),(9,.i .u64)]) (J:=J) (n0:=n0) (s0,s1,s9,()) hi (fun n s0 s1 s9 g h=>Pr  J n s0 s1 s9 g h R) hr
def afu(d:OA)(b:Sl)(f g:Int)(h:Hp)(R:RP):Prop:=bq PG 69 #[vp d,vu f,vi g] h fun r i=>∃e:Int,r=vu e∧dO (kJ PG fN Li (sub [1,0,1,0,0] (bd Tryz.f109))) (dW PG fN Li [1,0,1,0] (bd Tryz.f109) [] (eJ PG Tryz.f109 [] R)) [(0,vp d),(1,.slice b.a b.n b.c),(9,vu e)] 41 i
theorem YC {a0:OA}{a1:Sl}{a2 a3:Int}{h:Hp}{R:RP}(hF:afu a0 a1 a2 a3 h R):bq PG 109 #[vp a0,vl a1,vu a2,vi a3] h R:=iY (lv:=Li) Tryz.func109 hF
def auH(b:Sl)(d:Value)(h:Hp)(R:RP):Prop:=bq PG 157 #[.slice b.a b.n b.c,d] h fun r e=>r=vt #[]∧R (.slice b.a b.n b.c:Value) e
theorem YB {a0:Sl}{a1:Value}{h:Hp}{R:RP}(hF:auH a0 a1 h R):bq PG 110 #[vl a0,a1] h R:=iY (lv:=kw) Tryz.func110 hF
def afs(p:Int)(f:Sl)(q:Int)(g:Sl)(h:Hp)(R:RP):Prop:=gi (h.push (.cells #[vu p,.slice f.a f.n f.c] 102)) fun i=>gi (i.push (.cells #[vu q,.slice g.a g.n g.c] 102)) fun j=>∃l:Int,cell j (nb h)=some (vu l)∧∃m:Int,cell j (nb i)=some (vu m)∧bq PG 158 #[vu l,vu m] j fun r e=>∃k:Int,r=vi k∧bX (k != (0:Int)) (R (vi k:Value) e) (∃b:Sl,cell e ((nb h).add 1)=some (.slice b.a b.n b.c)∧∃d:Sl,cell e ((nb i).add 1)=some (.slice d.a d.n d.c)∧bq PG 65 #[.slice b.a b.n b.c,.slice d.a d.n d.c] e fun r s=>∃o:Int,r=vi o∧R (vi o:Value) s)
theorem YA {pF:Int}{lf:Sl}{mq:Int}{mn:Sl}{h:Hp}{R:RP}(hF:afs pF lf mq mn h R):bq PG 111 #[.agg #[vu pF,vl lf],.agg #[vu mq,vl mn]] h R:=iY (lv:=kw) Tryz.func111 hF
def JG  (b:OA) (e:Int) (h:Hp) (R:RP):Prop:=bq PG 61 #[vp b,vi 0] h fun r f=>∃a:Int,r=vu a∧bq PG 88 #[vp b,vu a] f fun r g=>∃c:Int,r=vi c∧bq PG 108 #[vu e,vi c] g fun r i=>∃d:Int,r=vi d∧R (vt #[vu a,vi d]:Value) i
def afr(a:OA)(c:Int)(h:Hp)(R:RP):Prop:=bq PG 61 #[vp a,vi 1] h fun r e=>∃b:Int,r=vu b∧bX (b != (0:Int)) (bq PG 88 #[vp a,vu b] e fun r j=>∃f:Int,r=vi f∧bq PG 108 #[vu c,vi f] j fun r k=>∃d:Int,r=vi d∧bq PG 61 #[vp a,vi 4] k fun r g=>∃i:Int,r=vu i∧bX (decide (d≥(wrap .i64 i))) (R (vt #[vu b,vi d]:Value) g) (JG  a c g R)) (JG  a c e R)
theorem Yz {a0:OA}{a1:Int}{h:Hp}{R:RP}(hF:afr a0 a1 h R):bq PG 114 #[vp a0,vu a1] h R:=iY (lv:=kw) Tryz.func114 hF
namespace RS
theorem Oy {s:RS}(v:s.Inv){l:LN}(hn:l.Nodup)(hh:∀x∈l,s.da x):l.length≤2097152:=by
 have h1:l.length≤(s.dG++s.cK).length:=B6 _ _ hn fun x hx=>(hh x hx).elim (fun h=>bW _ h) fun h=>bK _ h.2
 rw [bG]at h1
 have h2:s.dG.length≤s.fG s.dG:=by
  unfold fG
  have:∀l:LN,l.length≤(l.map s.size).sum:=fun l=>by
   induction l with
   |nil=>simp
   |cons y l ih =>
    have:0<s.size y:=by unfold size nW.size;omega
    simp only [cU,f8,dF]
    omega
  exact this _
 have h3:=v.u1;have h4:=v.u2;have h5:=v.h2;have h6:=v.l2;have h7:=v.Sp
 omega
end RS
structure ti (h:Hp) (q:HQ) (lb hn:Nat):Prop where
 row:eM h lb [vp (sa q.hb),vi (hn:Int)]
 out:q.bR lb=.out
section
variable {h h':Hp} {q q':HQ} {s:RS} {id lb hn:Nat}
theorem ti.c0(l:ti h q lb hn):cell h (ad lb)=some (vp (sa q.hb)):=(bS l.row 0).trans rfl
theorem ti.c1(l:ti h q lb hn):cell h ((ad lb).add 1)=some (vi (hn:Int)):=by rw [cm];exact(bS l.row 1).trans rfl
theorem ti.ex(l:ti h q lb hn)(x:Ex h q h' q'):ti h' q' lb hn :=
 ⟨by rw [x.1];exact bF x.gK l.row fun e=>e l.out,x.out (eE l.row) l.out⟩
theorem ti.cI(l:ti h q lb hn)(k:bY N h h'):ti h' q lb hn:=⟨bF k l.row id,l.out⟩
theorem RS.un(v:s.Inv)(hh:s.da id):s.fk id≠0:=fun e=>by
 have h1:=RS.jy v (.inr hh)
 rw [e,RS.np]at h1
 exact RS.sv v hh h1.symm
end
section
variable {h h':Hp} {q q':HQ} {s s':RS} {nd gm:List di} {b:LN}
structure wF (h:Hp) (q:HQ) (s:RS) (nd:List di) (h':Hp) (q':HQ) (s':RS) (gm:List di):Prop where
 g:Gs h' q' s' gm
 al:s'.Kh s
 rt:s'.bC=s.bC
 ex:Ex h q h' q'
 len:gm.length=nd.length
theorem wF.trans {h3:Hp}{q3:HQ}{s3:RS}{SS:List di}(a:wF h q s nd h' q' s' gm)(b:wF h' q' s' gm h3 q3 s3 SS):wF h q s nd h3 q3 s3 SS :=
 ⟨b.g,b.al.trans a.al,b.rt.trans a.rt,a.ex.trans b.ex,b.len.trans a.len⟩
theorem wF.refl(g:Gs h q s nd):wF h q s nd h q s nd:=⟨g,RS.Kh.refl _,rfl,Ex.refl _ _,rfl⟩
theorem wF.da(f:wF h q s nd h' q' s' gm){x:Nat}(hx:s.da x):s'.da x:=(f.al.da x).2 hx
theorem wF.anb(f:wF h q s nd h' q' s' gm){x:Nat}(hx:x=0∨s.da x):x=0∨s'.da x:=hx.imp_right f.da
theorem wF.fk(f:wF h q s nd h' q' s' gm)(x:Nat):s.fk x=s'.fk x:=(f.al.fk x).symm
end
section
variable {h h':Hp} {q q':HQ} {s s':RS} {nd:List di} {n:di} {id hn:Nat} {R:RP} {b:LN} {dN:LN}
theorem Gs.lt(x:Gs h q s nd)(hh:s.da id):id<nd.length:=by rw [x.sh.len];exact x.v.kz hh
theorem Gs.pos(x:Gs h q s nd):1≤nd.length:=by rw [x.sh.len];exact x.v.ob
theorem Gs.room(x:Gs h q s nd)(lv:Lv nd s.bC dN)(r w:Nat):s.zf r w↔iP s.cM (1+RS.mS nd dN) (RS.mT nd dN) (1+r+w):=RS.Hz x.v x.sh lv r w
theorem Gs.ag8(x:Gs h q s nd)(lv:Lv nd s.bC dN):∀y∈dN,y<nd.length:=fun y hy=>x.lt (x.da ((lv.S4 y).1 hy))
theorem Gs.leaf(x:Gs h q s nd)(lv:Lv nd s.bC dN){m:di}(hm:∀r∈m.cY,r=0):Lv (nd++[m]) (ix s.bC nd.length) (dN++[nd.length]):=by
 refine lv.leaf (x.ag8 lv) hm (by have:=x.pos;omega) (fun y hy=>?_) fun y hy m hm z hz=>?_
 ·rcases x.v.rt y hy with e|h
  ·have:=x.pos;omega
  ·exact x.lt h
 ·rcases RS.C3 x.v x.sh hm (x.da ((lv.S4 y).1 hy)) hz with e|h
  ·have:=x.pos;omega
  ·exact x.lt h
theorem aaF(x:Gs h q s nd){m:Nat}(hm:1≤m)(hd:s.bC.getD (m-1) none=some id)
  (hR:∀h' q' s',Gs h' q' s' nd→s'.Kh s→s'.bC=s.bC.set (m-1) none→Ex h q h' q'→R (vi 0) h') :
  qM PG 84 #[vp (sa q.hb),vi (m:Int)] h R:=by
 refine W5 (Q8 x.v x.st.rp fun h' cR G' wR ex=>?_)
 have e:=RS.WW s hm hd
 have v':=x.v.drop (m:Int)
 rw [e]at wR v' ⊢
 exact hR h' ⟨q.hb,cR,G',q.sp⟩ _ ⟨⟨wR,v'⟩,x.sh.bC _⟩ (RS.um _ _) rfl ⟨rfl,ex⟩
theorem aaU {a:Sl}(sr:Zs h q a b)(hb:b.length<140737488355328){t:TypeId}(e:h'=h.push (.cells #[.slice a.a a.n a.c] t)) (fE:∀p,a.a=some p→b≠[]→p.block<h.size) :
  ajo h' q ⟨some (nb h),1,1⟩ [a] [b]:=by
 have k:bY N h h':=e▸cF _ _ _
 have row:eM h' h.size [.slice a.a a.n a.c]:=e▸du h #[.slice a.a a.n a.c] t
 refine⟨lq row,rfl,rfl,fun i c p hc hp=>?_⟩
 cases i with
 |zero =>
  obtain rfl:=bt hc
  obtain rfl:=bt hp
  exact⟨fC k sr.rd,sr.n,sr.b8,hb,fun p hp hn=>bZ (fE p hp hn) k.1⟩
 |succ i=>cases hc
end
def Nt:LN:=[0,1,56,2,57,49,28,3,61,58,42,50,38,29,17,4,62,47,59,36,45,43,51,22,53,39,33,30,24,18,12,5,63,55,48,27,60,41,37,16,46,35,44,21,52,32,23,11,54,26,40,15,34,20,31,10,25,14,19,9,13,8,7,6]
def tzI(n:Int):Int:=Int.fdiv (wrap .u64 ((ot .u64 n (wrap .u64 (0-n)))*(285870213051353865:Int))) (2 ^ (min (58:Int).toNat (IntKind.bits .u64)))
def tzN(j:Nat):Nat:=((2 ^ j &&& (18446744073709551616-2 ^ j))*285870213051353865%18446744073709551616) / 288230376151711744
theorem af3 {j:Nat}(h:j<64):tzI ((2 ^ j:Nat):Int)=(tzN j:Int):=by
 have hp:2 ^ j<18446744073709551616:=by
  have:(2:Nat) ^ j<2 ^ 64:=nG (by omega) h
  exact bZ this (by decide)
 have h0:0<2 ^ j:=uj (by omega)
 have e1:wrap .u64 (0-((2 ^ j:Nat):Int))=((18446744073709551616-2 ^ j:Nat):Int):=by
  rw [tL]
  generalize 2 ^ j=x at *
  omega
 have hl:2 ^ j &&& (18446744073709551616-2 ^ j)≤2 ^ j:=Nat.and_le_left
 have e3:(min (58:Int).toNat (IntKind.bits .u64))=58:=by decide
 unfold tzI tzN
 rw [e1,vC hp (by omega),e3]
 generalize 2 ^ j &&& (18446744073709551616-2 ^ j)=y at *
 rw [tL]
 have e2:(y:Int)*285870213051353865%18446744073709551616=((y*285870213051353865%18446744073709551616:Nat):Int):=by omega
 rw [e2,ri]
theorem af2:((List.range 64).all fun j=>decide (tzN j<64)&&Nt.getD (tzN j) 64==j)=true:=by decide +kernel
theorem getD_some {l:LN}{k j:Nat}(hl:l.length=64)(hk:k<64)(h:l.getD k 64=j):l[k]?=some j:=by
 have fE:k<l.length:=by omega
 rw [bB,br fE]at h
 rw [br fE]
 exact congrArg some h
theorem DP:Nt.length=64:=by decide
theorem akk {j:Nat}(h:j<64):0≤tzI ((2 ^ j:Nat):Int)∧tzI ((2 ^ j:Nat):Int)<64∧Nt[(tzI ((2 ^ j:Nat):Int)).toNat]?=some j:=by
 have:=mg.1 af2 j (jQ.2 h)
 rw [eD,decide_eq_true_eq,beq_iff_eq]at this
 obtain⟨h2,h3⟩:=this
 rw [af3 h]
 have h4:=getD_some DP h2 h3
 clear h3
 generalize tzN j=k at *
 rw [bu]
 exact⟨by omega,by omega,h4⟩
def BF:Nat:=2
structure Tz (h:Hp) (q:HQ):Prop where
 row:eM h BF (Nt.map fun n=>.int .u8 (n:Nat))
 out:q.bR BF=.out
structure TR (h:Hp) (q:HQ) (s:RS) (nd:List di) (tb hn:Nat) (T:TD) (lo:Nat) (z:Option Nat) (n:Nat):Prop where
 g:Gs h q s nd
 l:ti h q tb hn
 pos:1≤hn
 lt:hn<1000000000
 held:s.bC.getD (hn-1) none=some T.t
 c:gD nd T lo z n
 tz:Tz h q
 hr:∀i∈T.dN,s.da i
structure qA (h:Hp) (q:HQ) (s:RS) (nd:List di) (tb hn:Nat) (T:TD):Prop where
 g:Gs h q s nd
 l:ti h q tb hn
 pos:1≤hn
 lt:hn<1000000000
 held:s.bC.getD (hn-1) none=some T.t
 c:yT nd T
 tz:Tz h q
section
variable {h h' h2:Hp} {q q':HQ} {s:RS} {nd:List di} {m:di} {id tb hn:Nat} {T:TD} {R:RP} {lo n hs:Nat} {z:Option Nat}
theorem Tz.ex(t:Tz h q)(x:Ex h q h' q'):Tz h' q':=⟨bF x.gK t.row fun e=>e t.out,x.out (eE t.row) t.out⟩
theorem Tz.cI(t:Tz h q)(k:bY N h h'):Tz h' q:=⟨bF k t.row _root_.id,t.out⟩
theorem Qy {bC:List (Option Nat)}:∀ {c:List iM},BI nd c 0→(∀x∈c,x.e≠0∧x.k≠0)→(c≠[]→vD nd bC (lL c))→∀i∈iX c,vD nd bC i
 | [],_,_,_=>nofun
 |x::c,s,z,h=>fun i hi=>by
  have hx:vD nd bC x.e:=h (by simp)
  rw [gS]at hi
  rcases ck.1 hi with rfl|hi
  ·exact hx
  rcases ck.1 hi with rfl|hi
  ·exact .next hx s.1.1 (by unfold iM.node;simp) (z x (bQ ..)).2
  refine Qy s.2 (fun y hy=>z y (bJ _ hy)) (fun hc=>.next hx s.1.1 (by unfold iM.node;simp) ?_) i hi
  cases c with
  |nil=>exact absurd rfl hc
  |cons y c=>exact(z y (bJ _ (bQ ..))).1
theorem yT.rch {bC:List (Option Nat)} (c:yT nd T) (h:vD nd bC T.t):∀i∈T.dN,vD nd bC i:=by
 have hn:vD nd bC T.nw.id:=.next h c.g.tn (by simp) (c.g.nz _ T.nU)
 have ho:∀o,T.od=some o→vD nd bC o.id:=fun o ho=>.next h c.g.tn (by simp [TD.qV ho]) (c.g.nz _ (TD.rG ho))
 have he:∀(A:rI) (_:vD nd bC A.id) (_:nd[A.id]?=some ⟨5,A.cs.map lL,[]⟩) (_:∀(i:Nat) (c:List iM),A.cs[i]?=some c→BI nd c 0) (_:∀x∈A.dc,x∈T.dc),∀i∈iX A.dc,vD nd bC i:=fun A hA Jf hs hT i hi=>by
  obtain⟨x,hx,e⟩:=iR.1 hi
  obtain⟨j,d,hd,hxd⟩:=iC hx
  have zz:∀y∈d,y.e≠0∧y.k≠0:=fun y hy=>by
   have DF:=hT y (dY.2 ⟨d,bx hd,hy⟩)
   exact⟨c.g.nz _ (TD.pq DF),c.g.nz _ (TD.EZ DF)⟩
  refine Qy (hs j d hd) zz (fun iS=>.next hA Jf (cy.2 ⟨d,bx hd,rfl⟩) ?_) i (iR.2 ⟨x,hxd,e⟩)
  cases d with
  |nil=>exact absurd rfl iS
  |cons y d=>exact(zz y (bQ ..)).1
 intro i hi
 rcases bI.1 hi with hi|hi
 ·unfold TD.nV at hi
  rcases ck.1 hi with rfl|hi
  ·exact h
  rcases ck.1 hi with rfl|hi
  ·exact hn
  cases e:T.od with
  |none=>rw [e]at hi;cases hi
  |some o =>
   rw [e]at hi
   rw [bM.1 hi];exact ho o e
 ·unfold TD.dc at hi
  rw [iE]at hi
  rcases bI.1 hi with hi|hi
  ·exact he T.nw hn c.g.wn (fun i d hd=>(c.g.sn i d hd).1) (fun x hx=>bW _ hx) i hi
  ·cases e:T.od with
   |none=>rw [TD.zX e]at hi;cases hi
   |some o =>
    rw [TD.iu e]at hi
    exact he o (ho o e) (c.g.wo o e) (fun i d hd=>(c.g.so o e i d hd).1) (fun x hx=>bK _ (by rw [TD.iu e];exact hx)) i hi
theorem qA.root(o:qA h q s nd tb hn T):vD nd s.bC T.t:=.root (lV.2 ⟨_,o.held⟩) (o.c.g.nz _ T.jO)
theorem qA.rch(o:qA h q s nd tb hn T){i:Nat}(hi:i∈T.dN):vD nd s.bC i:=o.c.rch o.root i hi
theorem qA.da(o:qA h q s nd tb hn T){i:Nat}(hi:i∈T.dN):s.da i:=o.g.da (o.rch hi)
theorem qA.tr(o:qA h q s nd tb hn T):TR h q s nd tb hn T T.mv none T.dc.length:=⟨o.g,o.l,o.pos,o.lt,o.held,o.c.g,o.tz,fun i hi=>o.da hi⟩
theorem qA.cI(o:qA h q s nd tb hn T)(k:bY N h h'):qA h' q s nd tb hn T:=⟨o.g.cI k,o.l.cI k,o.pos,o.lt,o.held,o.c,o.tz.cI k⟩
theorem TR.ht(o:TR h q s nd tb hn T lo z n):s.da T.t:=o.hr _ T.jO
theorem F9(x:Gs h q s nd)(l:ti h q tb hn)(hm:nd[id]?=some m)(hh:s.da id){k r:Nat}(hk:m.cY[k]?=some r){i:Int}(hi:i=(k:Int)) (hR:R (uv (s.fk r)) h) :
  bq PG 69 #[vp (sa tb),uv (s.fk id),vi i] h R :=
 Jp (by unfold abW;exact bw ⟨_,l.c0,alw x hm hh hk hi ⟨_,_,rfl,hR⟩⟩)
theorem Ec(x:Gs h q s nd)(l:ti h q tb hn)(hm:nd[id]?=some m)(hh:s.da id){k w:Nat}(hk:m.cN[k]?=some w){i:Int}(hi:i=((m.cY.length+k:Nat):Int)) (hR:R (uv w) h) :
  bq PG 69 #[vp (sa tb),uv (s.fk id),vi i] h R :=
 Jp (by unfold abW;exact bw ⟨_,l.c0,Vu x hm hh hk hi ⟨_,_,rfl,hR⟩⟩)
theorem akw(x:Gs h q s nd)(l:ti h q tb hn){i:Int}(hR:R (uv 0) h):bq PG 69 #[vp (sa tb),uv 0,vi i] h R :=
 Jp (by unfold abW;exact bw ⟨_,l.c0,agN x ⟨_,_,rfl,hR⟩⟩)
theorem zh(x:Gs h q s nd)(l:ti h q tb hn)(hm:nd[id]?=some m)(hh:s.da id)(hR:R (vi (m.cY.length:Nat)) h) :
  bq PG 88 #[vp (sa tb),uv (s.fk id)] h R :=
 Rl (by unfold aij;exact bw ⟨_,l.c0,QH x hm hh ⟨_,_,_,_,rfl,hR⟩⟩)
theorem af6(x:Gs h q s nd)(l:ti h q tb hn)(hR:R (vi 0) h) :
  bq PG 88 #[vp (sa tb),uv 0] h R :=
 Rl (by unfold aij;exact bw ⟨_,l.c0,agM x ⟨_,_,_,_,rfl,hR⟩⟩)
theorem zN(x:Gs h q s nd)(l:ti h q tb hn)(hp:1≤hn)(hd:s.bC.getD (hn-1) none=some id) (hR:R (uv (s.fk id)) h):bq PG 46 #[vp (sa tb)] h R:=by
 refine Ru ?_
 unfold aim
 exact bw ⟨_,l.c0,bw ⟨_,l.c1,_,_,Vv x hp hd ⟨rfl,rfl⟩,hR⟩⟩
theorem RS.at0(s:RS):s.atF 0=(0,35):=by unfold RS.atF RS.xT;simp
theorem Qg(x:Gs h q s nd)(l:ti h q tb 0)(hR:R (uv 0) h):bq PG 46 #[vp (sa tb)] h R:=by
 refine Ru ?_
 unfold aim
 exact bw ⟨_,l.c0,bw ⟨_,l.c1,(0:Int),(35:Int),aoN x.st (n:=0) (by rw [RS.at0];exact⟨rfl,rfl⟩),hR⟩⟩
theorem Ea(o:TR h q s nd tb hn T lo z n){k r:Nat}(hk:[T.nw.id,T.CU][k]?=some r){i:Int}(hi:i=(k:Int)) (hR:R (uv (s.fk r)) h):bq PG 61 #[vp (sa tb),vi i] h R:=by
 refine DM ?_
 unfold Xd
 exact zN o.g o.l o.pos o.held ⟨_,rfl,F9 o.g o.l o.c.tn o.ht hk hi ⟨_,rfl,hR⟩⟩
theorem D9(o:TR h q s nd tb hn T lo z n){k w:Nat}(hk:[T.df,n,T.mv][k]?=some w){i:Int}(hi:i=((2+k:Nat):Int)) (hR:R (uv w) h):bq PG 61 #[vp (sa tb),vi i] h R:=by
 refine DM ?_
 unfold Xd
 exact zN o.g o.l o.pos o.held ⟨_,rfl,Ec o.g o.l o.c.tn o.ht hk hi ⟨_,rfl,hR⟩⟩
theorem ac4(x:Gs h q s nd)(l:ti h q tb 0){i:Int}(hR:R (uv 0) h):bq PG 61 #[vp (sa tb),vi i] h R:=by
 refine DM ?_
 unfold Xd
 exact Qg x l ⟨_,rfl,akw x l ⟨_,rfl,hR⟩⟩
theorem o7 {j:Nat}(h:j≤20):2 ^ j≤1048576∧1≤2 ^ j:=by
 have h1:(2:Nat) ^ j≤2 ^ 20:=fQ (by omega) h
 have h2:0<2 ^ j:=uj (by omega)
 exact⟨by simpa using h1,h2⟩
theorem aqs(t:Tz h q){j:Nat}(hj:j<64)(hR:R (vi (j:Nat)) h):bq PG 155 #[vu ((2 ^ j:Nat):Int)] h R:=by
 refine X3 ?_
 unfold ae1
 refine XJ ?_
 unfold aeJ
 obtain⟨h1,h2,h3⟩:=akk hj
 have hp:0<2 ^ j:=uj (by omega)
 refine cj (by rw [beq_eq_false_iff_ne];omega) ⟨by omega,⟨h1,h2⟩,(j:Int),?_,_,rfl,?_⟩
 ·show cell h ((⟨BF,0,none⟩:Addr).add ((tzI ((2 ^ j:Nat):Int)).toNat*1))=_
  have e:(⟨BF,0,none⟩:Addr)=ad BF:=rfl
  rw [cQ,e,cm,bS t.row,bD,h3];rfl
 ·rw [bU (by omega) (by omega)];exact hR
theorem agd(t:Tz h q){j:Nat}(hj:j≤20){x:Nat}(hx:x<18446744073709551616)(hR:R (vi (bk j x:Nat)) h):bq PG 108 #[uv x,vi ((2 ^ j:Nat):Int)] h R:=by
 refine YD ?_
 unfold afv
 have h2:=o7 hj
 rw [eN (by omega) (by omega)]
 refine aqs t (by omega) ⟨_,rfl,?_⟩
 have e:wrap .i64 ((64:Int)-(j:Int))=((64-j:Nat):Int):=by rw [bU (by omega) (by omega)];omega
 rw [e]
 refine⟨by omega,?_⟩
 have e2:min ((64-j:Nat):Int).toNat (IntKind.bits .u64)=64-j:=by rw [bu,vy];omega
 rw [e2,ri]
 have hb:=Ih (j:=j) (by omega) hx
 have e3:wrap .i64 ((x / 2 ^ (64-j):Nat):Int)=(bk j x:Int):=by
  show wrap .i64 (bk j x:Int)=_
  rw [bU (by omega) (by omega)]
 rw [e3];exact hR
theorem TR.K2(o:TR h q s nd tb hn T lo z n):(T.nw.cs.map lL).length=2 ^ T.nw.j:=by rw [bA];exact o.c.ln
theorem uJ(l:LN)(i:Nat)(z:Option Nat):(tN l i z).length=l.length:=by cases z<;>simp [tN]
theorem UF(o:TR h q s nd tb hn T lo z n){x:Nat}(hx:x<18446744073709551616)(hR:R (vt #[uv (s.fk (T.pick x).id),vi (T.pX x:Nat)]) h) :
  bq PG 114 #[vp (sa tb),uv x] h R:=by
 refine Yz ?_
 unfold afr
 have k1:(T.pick x=T.nw)→JG (sa tb) (x:Int) h R:=fun e=>by
  unfold JG
  refine Ea o (k:=0) rfl rfl ⟨_,rfl,zh o.g o.l o.c.wn (o.hr _ T.nU) ⟨_,rfl,?_⟩⟩
  show bq _ _ #[_,vi (((T.nw.cs.map lL).length:Nat):Int)] _ _
  rw [o.K2]
  refine agd o.tz o.c.jn hx ⟨_,rfl,?_⟩
  unfold TD.pX at hR
  rw [e]at hR
  exact hR
 refine Ea o (k:=1) rfl rfl ⟨_,rfl,?_⟩
 cases ho:T.od with
 |none =>
  refine cj ?_ (k1 (by unfold TD.pick;rw [ho]))
  rw [TD.uV ho,RS.iQ];rfl
 |some od =>
  rw [TD.qV ho]
  have hh:=o.hr _ (TD.rG ho)
  refine cr (by rw [bne_iff_ne];have:=RS.un o.g.v hh;omega) (zh o.g o.l (o.c.wo od ho) hh ⟨_,rfl,?_⟩)
  show bq _ _ #[_,vi (((tN (od.cs.map lL) lo z).length:Nat):Int)] _ _
  rw [uJ,bA,o.c.F3 od ho]
  refine agd o.tz (o.c.jo od ho) hx ⟨_,rfl,D9 o (k:=2) rfl rfl ⟨_,rfl,?_⟩⟩
  have hm:=(o.c.sp od ho).2.2.2
  have h2:=o7 (o.c.jo od ho)
  rw [bU (by omega) (by omega)]
  refine ca (fun o5=>?_) fun fE=>k1 (by unfold TD.pick;rw [ho];dsimp only;rw [if_neg (by omega)])
  have e:T.pick x=od:=by unfold TD.pick;rw [ho];dsimp only;rw [if_pos (by omega)]
  unfold TD.pX at hR
  rw [e]at hR
  exact hR
end
structure GL (sz:Nat) (h0 h:Hp) (a:Sl) (ob:Option Nat) (vs:LV):Prop where
 sl:kM sz h a.a a.n a.c ob vs
 new:∀b,ob=some b→h0.size≤b
section
variable {sz:Nat} {h0 h h' h2:Hp} {a:Sl} {ob:Option Nat} {vs:LV} {S:Nat→Prop}
theorem GL.nil(sz:Nat)(h0 h:Hp):GL sz h0 h ⟨none,0,0⟩ none []:=⟨uL sz h,nofun⟩
theorem GL.lt(x:GL sz h0 h a ob vs){b:Nat}(hb:ob=some b):b<h.size:=by
 obtain⟨_,_,j,r,_⟩:=x.sl.row b hb
 exact eE r
theorem GL.eG(x:GL sz h0 h a ob vs)(k:bY S h h')(hS:∀b,ob=some b→¬S b):GL sz h0 h' a ob vs :=
 ⟨x.sl.eG fun b hb=>k.2 b (x.lt hb) (hS b hb),x.new⟩
theorem GL.cI(x:GL sz h0 h a ob vs)(k:bY (fun _=>False) h h'):GL sz h0 h' a ob vs:=x.eG k fun _ _ e=>e
theorem GL.rd(x:GL sz h0 h a ob vs):dZ h a.a vs:=by
 cases ob with
 |none =>
  have h1:=x.sl.nil rfl
  have h2:=x.sl.len
  rw [h1.1]
  exact dA.1 (by rw [h2,h1.2.1];omega)
 |some b =>
  obtain⟨h1,_,j,h3,_⟩:=x.sl.row b rfl
  rw [h1]
  exact lQ h3 fun k v hv=>by rw [fo,bL (bp.1 hv).1];exact hv
theorem GL.len(x:GL sz h0 h a ob vs):vs.length=a.n*sz:=x.sl.len
theorem GL.at(x:GL sz h0 h a ob vs){o:Nat}{v:Value}(hv:vs[o]?=some v):∃b,ob=some b∧a.a=some (ad b)∧cell h ((ad b).add o)=some v:=by
 cases ob with
 |none =>
  have h1:=x.sl.nil rfl
  have h2:=x.sl.len
  rw [h1.2.1,pG]at h2
  rw [dA.1 h2]at hv
  cases hv
 |some b =>
  obtain⟨h1,_,j,h3,_⟩:=x.sl.row b rfl
  refine⟨b,rfl,h1,?_⟩
  rw [cm,bS h3,bL (bp.1 hv).1];exact hv
theorem GL.Av {e ze:Nat}{z:Array Value}{m:Nat}{fz:LV}{K:OA→Nat→Nat→Hp→Prop}(x:GL sz h0 h a ob vs)(ZR:h0.size≤h.size)(hz:z.size=sz)(hl:fz.length=m*sz)(kY:∀v∈fz,mj v=true)
  (HZ:(2*(a.n+m)+768)*ze≤2 ^ 48) (fE:a.n+m<2 ^ 62)
  (hK:∀a' c' h' jK,GL sz h0 h' ⟨a',a.n+m,c'⟩ jK (vs++fz)→bY (fun b=>ob=some b) h h'→(∀b,jK=some b→ob=some b∨h.size≤b)→K a' (a.n+m) c' h'):Av e sz ze z a.a a.n a.c (a.n+m) fz h K:=by
 refine yp x.sl hz hl kY HZ fE fun a' c' jK h' s' vj=>?_
 have hn:∀b,jK=some b→ob=some b∨h.size≤b:=fun b e=>by
  rcases vj with⟨q,_⟩|⟨q,_⟩
  ·exact .inl (q▸e)
  ·rw [q]at e;obtain rfl:=bt e;exact .inr (bH _)
 have k:bY (fun b=>ob=some b) h h':=by
  rcases vj with⟨_,k⟩|⟨_,k⟩
  ·exact k
  ·exact k.mono fun _ _ e=>e.elim
 exact hK a' c' h' jK ⟨s',fun b hb=>(hn b hb).elim (x.new b) fun h=>by omega⟩ k hn
theorem GL.add {e ze:Nat}{z arr:Array Value}{t:TypeId}{K:OA→Nat→Nat→Hp→Prop}(x:GL sz h0 h a ob vs)(ZR:h0.size≤h.size)(hz:z.size=sz)(hl:arr.toList.length=1*sz)(kY:∀v∈arr.toList,mj v=true)
  (HZ:(2*(a.n+1)+768)*ze≤2 ^ 48) (fE:a.n+1<2 ^ 62)
  (hK:∀a' c' h' jK,GL sz h0 h' ⟨a',a.n+1,c'⟩ jK (vs++arr.toList)→bY (fun b=>ob=some b) h h'→(∀b,jK=some b→ob=some b∨h.size≤b)→K a' (a.n+1) c' h') :
  gi (h.push (.cells arr t)) fun h2=>im e sz ze z a.a a.n a.c (some (nb h)) 1 h2 K:=by
 show (fun h2=>im e sz ze z a.a a.n a.c (some (nb h)) 1 h2 K) (h.push (.cells arr t))
 generalize e2:h.push (.cells arr t)=h2
 have e2:=e2.symm
 have k2:bY (fun _=>False) h h2:=e2▸cF _ _ _
 have mi:eM h2 h.size arr.toList:=e2▸du h arr t
 exact⟨arr.toList,lQ mi (fun j v hj=>by rw [fo];exact hj),hl,(x.cI k2).Av (bP ZR k2.1) hz hl kY HZ fE fun a' c' h' jK g k n =>
  hK a' c' h' jK g ((k2.mono fun _ _ e=>e.elim).trans k) fun b hb=>(n b hb).imp_right fun h=>bP k2.1 h⟩
theorem cL (k:bY (fun _=>False) h0 h) (k2:bY S h h') (hS:∀b,S b→h0.size≤b):bY (fun _=>False) h0 h' :=
 ⟨bP k.1 k2.1,fun i hi _=>(k2.2 i (bZ hi k.1) fun s=>by have:=hS i s;omega).trans (k.2 i hi _root_.id)⟩
end
section
variable {h h':Hp} {R:RP} {b:LN} {a:Sl}
theorem aja(k:Nat)(hk:k≤64):min (k:Int).toNat (IntKind.bits .u64)=k:=by rw [bu,vy];omega
theorem xsh(x k:Nat)(hx:x<18446744073709551616):yX .u64 (x:Int) (Int.fdiv (x:Int) (2 ^ k))=((x ^^^ shr x k:Nat):Int):=by
 rw [WZ,DX hx (II hx)]
theorem VW:(15466983567672013453:Int)=(mc1:Int):=by decide
theorem VV:(12920666929402377605:Int)=(mc2:Int):=by decide
theorem akb(x:Nat):wrap .u64 (((x ^^^ shr x 32:Nat):Int)*(mc1:Int))=(Dl x:Int):=by rw [Kq];rfl
theorem aka(x:Nat):wrap .u64 (((x ^^^ shr x 29:Nat):Int)*(mc2:Int))=(K5 x:Int):=by rw [Kq];rfl
theorem e32:min (32:Int).toNat (IntKind.bits .u64)=32:=by decide
theorem e29:min (29:Int).toNat (IntKind.bits .u64)=29:=by decide
theorem akc {x:Nat}(hx:x<18446744073709551616)(hR:R (uv (SU x)) h):bq PG 116 #[uv x] h R:=by
 refine Yx ?_
 unfold afp
 refine⟨by omega,by omega,by omega,?_⟩
 rw [e32,e29,VW,VV,xsh x 32 hx,akb,xsh (Dl x) 29 (DD x),aka,xsh (K5 (Dl x)) 32 (DC _)]
 exact hR
theorem aj9 (rd:dZ h a.a (b.map bv)) (na:a.n=b.length) (b8:fK b) (hl:b.length≤140737488351232) (hR:∀c h',eM h' c ((wL b).map uv)→bY N h h'→R (.slice (sa c) (wn b.length) (wn b.length)) h') :
  bq PG 117 #[.slice a.a a.n a.c] h R:=by
 have hw:wn b.length≤17592186043904:=by unfold wn;omega
 refine Yw ?_
 unfold afo
 rw [na]
 refine Mr ?_
 unfold X0
 have k0:∀t:Int,t=(wn b.length:Int)→∃t8:Int,(vi t:Value)=vi t8∧(0≤t8∧t8≤t8)∧t8<2 ^ 62∧(8:Nat)*t8≤2 ^ 48∧gi (h.push (.cells (ja #[vu 0] (t8.toNat*1)) 27)) fun h2=>dO (kJ PG fN E2 (sub [1,1,0,1,0,0] (bd Tryz.f117))) (dW PG fN E2 [1,1,0,1,0] (bd Tryz.f117) [] (eJ PG Tryz.f117 [] R)) [(3,.slice (some (nb h)) t8.toNat t8.toNat),(10,.slice a.a b.length a.c),(11,vi (b.length:Int)),(12,vi 0)] 32 h2:=fun t e=>by
  subst e
  refine⟨_,rfl,⟨by omega,Int.le_refl _⟩,by omega,by omega,dh fun h1 e1=>?_⟩
  rw [bu]at e1 ⊢
  have k1:bY N h h1:=e1▸cF _ _ _
  have A2:eM h1 h.size ((uZ b 0).map uv):=by
   rw [Og,←Kp,e1]
   exact du h (ja #[vu 0] (wn b.length*1)) 27
  refine MG (s3:=⟨some (ad h.size),wn b.length,wn b.length⟩) (oh:=⟨a.a,b.length,a.c⟩) (fun p s3 oh pc rO h2=>∃m:Nat,m≤b.length∧p=b.length-m∧⟨some (ad h.size),wn b.length,wn b.length⟩=s3∧⟨a.a,b.length,a.c⟩=oh∧pc=(b.length:Int)∧rO=(m:Int)∧eM h2 h.size ((uZ b m).map uv)∧bY N h h2) b.length
   ⟨0,cP _,rfl,rfl,rfl,rfl,rfl,A2,k1⟩ ?_
  rintro p s3 oh pc rO g h2 ⟨m,hm,rfl,rfl,rfl,rfl,rfl,mi,k2⟩
  unfold Pq
  refine ca (fun fE=>?_) fun o5=>?_
  ·have hmb:m<b.length:=by omega
   have hq:m / 8<wn b.length:=by unfold wn;omega
   have rd2:=fC k2 rd
   obtain⟨p,hp,hc⟩:=ni rd2 (i:=m) (v:=bv (b.getD m 0)) (by rw [bD,br hmb,bB,br hmb];rfl)
   have hq2:wrap .i64 (Int.tdiv (m:Int) 8)=((m / 8:Nat):Int):=by rw [yw (by omega),bU (by omega) (by omega)];omega
   have hr2:wrap .i64 ((8:Int)*(Int.tmod (m:Int) 8))=((8*(m%8):Nat):Int):=by rw [Dv (by omega),bU (by omega) (by omega)];omega
   have o0:(uZ b m).length=wn b.length:=by unfold uZ;simp
   have hw:(uZ b m)[m / 8]?=some (jG (b.take m) (8*(m / 8))):=by unfold uZ;rw [bD,fL hq];rfl
   have hb:=DK b8 m
   have ht:∀c∈b.take m,c<256:=fun c hc=>b8 c (dK hc)
   refine⟨⟨by omega,by show (m:Int)<(b.length:Int);omega⟩,cW hp ⟨_,by rw [bu,cQ];exact hc,by omega,?_⟩⟩
   rw [hq2,hr2,bu,cQ]
   refine⟨⟨by omega,by show ((m / 8:Nat):Int)<(wn b.length:Int);omega⟩,bw ⟨((jG (b.take m) (8*(m / 8)):Nat):Int),?_,by omega,by omega,⟨by omega,by show ((m / 8:Nat):Int)<(wn b.length:Int);omega⟩,bw ?_⟩⟩
   ·rw [cm,bS mi,bD,hw];rfl
   ·have e1:wrap .u64 (wrap .u64 (b.getD m 0:Int)*2 ^ (min ((8*(m%8):Nat):Int).toNat (IntKind.bits .u64)))=((b.getD m 0*2 ^ (8*(m%8)):Nat):Int):=by
     have hr8:8*(m%8)≤56:=by omega
     rw [aja _ (by omega),eN (x:=(b.getD m 0:Int)) (by omega) (by omega)]
     have hpw:(2:Nat) ^ (8*(m%8))≤2 ^ 56:=fQ (by omega) hr8
     have h56:(2:Nat) ^ 56=72057594037927936:=by decide
     rw [h56]at hpw
     have amM:b.getD m 0*2 ^ (8*(m%8))≤255*72057594037927936:=Nat.mul_le_mul (by omega) hpw
     have e0:(b.getD m 0:Int)*2 ^ (8*(m%8))=((b.getD m 0*2 ^ (8*(m%8)):Nat):Int):=by
      rw [mI];congr 1
     rw [e0]
     generalize b.getD m 0*2 ^ (8*(m%8))=u at *
     exact eN (by omega) (by omega)
    have hub:b.getD m 0*2 ^ (8*(m%8))<18446744073709551616:=by
     have hpw:(2:Nat) ^ (8*(m%8))≤2 ^ 56:=fQ (by omega) (by omega)
     have h56:(2:Nat) ^ 56=72057594037927936:=by decide
     rw [h56]at hpw
     have amM:b.getD m 0*2 ^ (8*(m%8))≤255*72057594037927936:=Nat.mul_le_mul (by omega) hpw
     omega
    rw [e1,yF (uF ht _) hub,aa4 b8 hmb,cm]
    refine⟨jH mi (by rw [bA,o0];exact hq),dh fun h3 e3=>⟨b.length-(m+1),by omega,m+1,hmb,rfl,rfl,rfl,rfl,by rw [bU (by omega) (by omega)];rfl,?_,?_⟩⟩
    ·have:=hG mi (m / 8) (uv (jG (b.take (m+1)) (8*(m / 8))))
     rw [Oh hmb,ig,e3]
     exact this
    ·exact cL k2 (e3▸gf h2 _ _ (S:=fun c=>c=h.size) rfl) fun c e=>by rw [e];exact bH _
  ·obtain rfl:m=b.length:=by omega
   rw [S2]at mi
   exact hR h.size h2 mi k2
 refine ca (fun fE=>k0 _ ?_) fun o5=>⟨by omega,k0 _ ?_⟩
 ·unfold wn;omega
 ·rw [bU (x:=(b.length:Int)-1) (by omega) (by omega),fD (by omega),bU (x:=((b.length:Int)-1) / 8) (by omega) (by omega),bU (by omega) (by omega)]
  unfold wn;omega
theorem Ut (rd:dZ h a.a (b.map bv)) (na:a.n=b.length) (b8:fK b) (hl:b.length≤140737488351232) {df:Nat} (hs:df<18446744073709551616) (hR:∀h',bY N h h'→R (uv (fU df b)) h') :
  bq PG 68 #[uv df,.slice a.a a.n a.c] h R:=by
 have hw:wn b.length≤17592186043904:=by unfold wn;omega
 refine abX ?_
 unfold anX
 rw [na]
 have e0:wrap .u64 ((df:Int)+wrap .u64 (b.length:Int))=(((df+b.length)%18446744073709551616:Nat):Int):=by
  rw [eN (x:=(b.length:Int)) (by omega) (by omega),AM]
 rw [e0]
 have hm:(df+b.length)%18446744073709551616<18446744073709551616:=jB _ (by omega)
 refine akc hm ⟨_,rfl,aj9 (a:=⟨a.a,b.length,a.c⟩) rd rfl b8 hl fun c h1 row k1=>⟨⟨_,_,_⟩,rfl,?_⟩⟩
 refine OT (qS:=⟨some (ad c),wn b.length,wn b.length⟩) (fun p s5 qS wJ Ew h2=>∃m:Nat,m≤wn b.length∧p=wn b.length-m∧s5=((xQ (Ra df b.length) b m:Nat):Int)∧⟨some (ad c),wn b.length,wn b.length⟩=qS∧wJ=(wn b.length:Int)∧Ew=(m:Int)∧h1=h2) (wn b.length)
  ⟨0,cP _,rfl,rfl,rfl,rfl,rfl,rfl⟩ ?_
 rintro p s5 qS wJ Ew g h2 ⟨m,hm,rfl,rfl,rfl,rfl,rfl,rfl⟩
 unfold Xa
 refine ca (fun fE=>?_) fun o5=>?_
 ·have hmw:m<wn b.length:=by omega
  refine⟨⟨by omega,by show (m:Int)<(wn b.length:Int);omega⟩,bw ⟨((jG b (8*m):Nat):Int),?_,?_⟩⟩
  ·rw [bu,cQ,cm,bS row,bD,B0 hmw];rfl
  ·rw [DX (vk (xR _ _) _ _) (uF b8 _)]
   refine akc (DV (vk (xR _ _) _ _) (uF b8 _)) ⟨_,rfl,wn b.length-(m+1),by omega,m+1,hmw,rfl,by rw [xP],rfl,rfl,by rw [bU (by omega) (by omega)];rfl,rfl⟩
 ·obtain rfl:m=wn b.length:=by omega
  exact hR h1 k1
end
section
variable {h h':Hp} {q:HQ} {s:RS} {nd:List di} {m:di} {tb hn:Nat} {T:TD} {R:RP} {key:LN} {n hs:Nat} {z:Option Nat} {a:Sl}
theorem yT.Je(c:yT nd T){x:Nat}(hx:x<18446744073709551616){p r:List iM}(hc:T.chain x=p++r):
  ∃m,nd[(lW (T.pick x) (T.pX x) p).1]?=some m∧m.cY[(lW (T.pick x) (T.pX x) p).2]?=some (lL r)∧(lW (T.pick x) (T.pX x) p).1∈T.dN:=by
 rcases tW p with rfl|⟨p,y,rfl⟩
 ·rw [Fa]
  have ea:=c.g.lX hx
  rw [hc,eU]at ea
  have e3:((T.pick x).cs.map lL)[T.pX x]?=some (lL r):=by rw [bD,ea];rfl
  refine⟨⟨5,(T.pick x).cs.map lL,[]⟩,?_,e3,c.g.Bb x⟩
  unfold TD.pick
  cases ho:T.od with
  |none=>exact c.g.wn
  |some o=>dsimp only;split;exact c.g.wo o ho;exact c.g.wn
 ·rw [jM]
  have hs:=(c.g.TZ hx).1
  rw [hc,ce]at hs
  have:=(ou.1 hs).2.1
  have hy:y∈T.dc:=c.g.lu hx (by rw [hc];simp)
  exact⟨_,this.1,rfl,TD.pq hy⟩
theorem akx(o:qA h q s nd tb hn T)(rk:dZ h a.a (key.map bv)) (na:a.n=key.length) (b8:fK key) {x:Nat} (hx:x<18446744073709551616)
  (wX:(∀e∈T.chain x,¬(e.hs=x∧e.key=key))→∀h' r i,bY N h h'→R (vt #[uv r,vi i,uv 0]) h')
  (xK:∀p e c h',T.chain x=p++e::c→e.hs=x→e.key=key→bY N h h'→R (vt #[uv (s.fk (lW (T.pick x) (T.pX x) p).1),vi ((lW (T.pick x) (T.pX x) p).2:Nat),uv (s.fk e.e)]) h') :
  bq PG 67 #[vp (sa tb),uv x,.slice a.a a.n a.c] h R:=by
 refine abY ?_
 unfold anZ
 refine UF o.tr hx ⟨_,_,rfl,?_⟩
 refine OU (s2:=a) (fun k s0 s1 s2 s6 s7 h1=>∃p r:List iM,T.chain x=p++r∧(∀e∈p,¬(e.hs=x∧e.key=key))∧k=r.length∧some (ad tb)=s0∧(x:Int)=s1∧a=s2 ∧
   s6=((s.fk (lW (T.pick x) (T.pX x) p).1:Nat):Int)∧s7=(((lW (T.pick x) (T.pX x) p).2:Nat):Int)∧bY N h h1) (T.chain x).length
  ⟨[],T.chain x,rfl,nofun,rfl,rfl,rfl,rfl,rfl,rfl,bY.refl _ _⟩ ?_
 rintro k s0 s1 s2 s6 s7 g h1 ⟨p,r,hc,hp,rfl,rfl,rfl,rfl,rfl,rfl,k1⟩
 have o1:=o.cI k1
 obtain⟨mm,hm,hr,hi⟩:=o.c.Je hx hc
 unfold Xb
 refine F9 o1.g o1.l hm (o1.da hi) hr rfl ⟨_,rfl,?_⟩
 cases r with
 |nil =>
  have e0:s.fk (lL [])=0:=RS.iQ s
  rw [e0]
  refine cr rfl (wX (fun e he=>hp e ?_) h1 _ _ k1)
  rw [hc,eV]at he;exact he
 |cons e c =>
  have he:e∈T.dc:=o.c.g.lu hx (by rw [hc];simp)
  have hse:=(o.c.g.TZ hx).1
  rw [hc]at hse
  obtain⟨GY,hkn,ok⟩:=(ou.1 hse).2.1
  have hh:=o1.da (TD.pq he)
  have hhk:=o1.da (TD.EZ he)
  have next:∀h3,bY N h h3→¬(e.hs=x∧e.key=key)→∃m,m<(e::c).length∧∃p r:List iM,T.chain x=p++r∧(∀e∈p,¬(e.hs=x∧e.key=key))∧m=r.length∧some (ad tb)=some (ad tb)∧(x:Int)=(x:Int)∧a=a ∧
    (s.fk e.e:Int)=((s.fk (lW (T.pick x) (T.pX x) p).1:Nat):Int)∧(0:Int)=(((lW (T.pick x) (T.pX x) p).2:Nat):Int)∧bY N h h3:=fun h3 k3 iS =>
   ⟨c.length,by simp,p++[e],c,by rw [hc];simp,fun y hy=>(bI.1 hy).elim (hp y) fun h=>by rw [bM.1 h];exact iS,rfl,rfl,rfl,rfl,by rw [jM],by rw [jM];rfl,k3⟩
  refine cj (by rw [beq_eq_false_iff_ne];have:=RS.un o1.g.v hh;show (s.fk e.e:Int)≠0;omega) (Ec o1.g o1.l GY hh (k:=0) rfl rfl ⟨_,rfl,?_⟩)
  refine fY (fun hb=>?_) fun hb=>next h1 k1 fun z=>by rw [z.1]at hb;simp at hb
  have hb:e.hs=x:=by rw [beq_iff_eq]at hb;omega
  refine bw ⟨_,o1.l.c0,F9 o1.g o1.l GY hh (k:=1) rfl rfl ⟨_,rfl,⟨_,o1.l.c0,rfl⟩,?_⟩⟩
  refine PH o1.g.st (o1.g.isB hhk hkn) ok (c:=a) (fC k1 rk) na b8 fun h4 k4=>⟨_,_,rfl,?_⟩
  refine fY (fun hz=>?_) fun hz=>next h4 (cL k1 k4 fun _ z=>z.elim) fun z=>by
   have:i0 e.key key=0:=by rw [z.2];exact vx _
   rw [this]at hz;simp at hz
  have hk:e.key=key:=ug (by rw [beq_iff_eq]at hz;exact hz)
  exact xK p e c h4 hc hb hk (cL k1 k4 fun _ z=>z.elim)
end
section
variable {h h' h2:Hp} {q q':HQ} {s s':RS} {nd gm:List di} {m:di} {id tb hn:Nat} {T:TD} {R:RP} {key:LN} {lo n n' hs:Nat} {z:Option Nat} {a:Sl} {x:iM}
theorem zu(f:wF h q s nd h' q' s' gm)(hm:gm[id]?=some m)(hh:s.da id){k t:Nat}(ht:t=0∨s.da t)(hk:k<m.cY.length){i:Int}(hi:i=(k:Int))
  (hR:∀h2 q2 s2 lT,wF h q s nd h2 q2 s2 lT→(∀x,lT[x]?=if x=id then some ⟨m.kind,m.cY.set k t,m.cN⟩else gm[x]?)→R (vi 0) h2) :
  bq PG 92 #[vp (sa q'.hb),uv (s.fk id),vi i,uv (s.fk t)] h' R:=by
 rw [f.fk id,f.fk t]
 exact alu f.g hm (f.da hh) (f.anb ht) hk hi fun h2 q2 s2 g2 al er ex=>hR h2 q2 s2 _ (f.trans ⟨g2,al,er,ex,cd ..⟩) fun x=>BQ hm _ x
theorem vO(f:wF h q s nd h' q' s' gm)(hm:gm[id]?=some m)(hh:s.da id){k w:Nat}(hw:w<18446744073709551616)(hk:k<m.cN.length){i:Int}(hi:i=((m.cY.length+k:Nat):Int))
  (hR:∀h2 q2 s2 lT,wF h q s nd h2 q2 s2 lT→(∀x,lT[x]?=if x=id then some ⟨m.kind,m.cY,m.cN.set k w⟩else gm[x]?)→R (vi 0) h2) :
  bq PG 92 #[vp (sa q'.hb),uv (s.fk id),vi i,uv w] h' R:=by
 rw [f.fk id]
 exact Vs f.g hm (f.da hh) hw hk hi fun h2 q2 s2 g2 al er ex=>hR h2 q2 s2 _ (f.trans ⟨g2,al,er,ex,cd ..⟩) fun x=>BQ hm _ x
theorem adF(f:wF h q s nd h' q' s' gm)(l:ti h' q' tb hn)(hm:gm[id]?=some m)(hh:s.da id){k r:Nat}(hk:m.cY[k]?=some r){i:Int}(hi:i=(k:Int)) (hR:R (uv (s.fk r)) h') :
  bq PG 69 #[vp (sa tb),uv (s.fk id),vi i] h' R:=by
 rw [f.fk id]
 rw [f.fk r]at hR
 exact F9 f.g l hm (f.da hh) hk hi hR
theorem agK(f:wF h q s nd h' q' s' gm)(l:ti h' q' tb hn)(hm:gm[id]?=some m)(hh:s.da id){k w:Nat}(hk:m.cN[k]?=some w){i:Int}(hi:i=((m.cY.length+k:Nat):Int)) (hR:R (uv w) h') :
  bq PG 69 #[vp (sa tb),uv (s.fk id),vi i] h' R:=by
 rw [f.fk id]
 exact Ec f.g l hm (f.da hh) hk hi hR
theorem TR.fld(o:TR h q s nd tb hn T lo z n)(f:wF h q s nd h' q' s' gm){T':TD}{F3 n':Nat}{z':Option Nat}(ht:T'.t=T.t)(c:gD gm T' F3 z' n')(hr:∀i∈T'.dN,s.da i):TR h' q' s' gm tb hn T' F3 z' n' :=
 ⟨f.g,o.l.ex f.ex,o.pos,o.lt,by rw [f.rt,ht];exact o.held,c,o.tz.ex f.ex,fun i hi=>f.da (hr i hi)⟩
theorem gD.HD(g:gD nd T lo z n)(y:Nat)(hz:∀o,T.od=some o→T.mv≤bk o.j y→z=none):nd[(T.pick y).id]?=some ⟨5,(T.pick y).cs.map lL,[]⟩:=by
 unfold TD.pick
 cases ho:T.od with
 |none=>exact g.wn
 |some o =>
  dsimp only
  split
  ·rename_i hm
   have:=g.wo o ho
   rw [hz o ho hm]at this
   exact this
  ·exact g.wn
theorem PK(o:TR h q s nd tb hn T lo z n){y:Nat}(hy:y<18446744073709551616):lL (T.chain y)=0∨s.da (lL (T.chain y)):=by
 rcases e:T.chain y with _|⟨x,c⟩
 ·exact .inl rfl
 ·exact .inr (o.hr _ (TD.pq (o.c.lu hy (by rw [e];exact bQ ..))))
theorem ac6(o:TR h q s nd tb hn T lo z n)(hx:x.hs<18446744073709551616)(hz:∀o,T.od=some o→T.mv≤bk o.j x.hs→z=none)(f1:x.e∉T.dN)(f2:x.k∉T.dN)(f3:x.e≠x.k)(h1:s.da x.e)(h2:s.da x.k)
  {w:Nat} (he:nd[x.e]?=some (x.node w)) (hk:nd[x.k]?=some (oV x.key)) (ok:Ko x.key)
  (hR:∀h' q' s' gm,wF h q s nd h' q' s' gm→TR h' q' s' gm tb hn (T.fW x.hs (x::T.chain x.hs)) lo z n→(∀y,gm[y]?=if y=(T.pick x.hs).id then some ⟨5,((T.pick x.hs).cs.map lL).set (T.pX x.hs) x.e,[]⟩else if y=x.e then some (x.node (lL (T.chain x.hs)))else nd[y]?)→R (vt #[]) h') :
  bq PG 93 #[vp (sa tb),uv (s.fk x.e),uv x.hs] h R:=by
 refine abJ ?_
 unfold anI
 have pn:=o.c.HD x.hs hz
 have pi:=o.c.Bb x.hs
 have ch:=o.c.lX hx
 have e3:((T.pick x.hs).cs.map lL)[T.pX x.hs]?=some (lL (T.chain x.hs)):=by rw [bD,ch];rfl
 have fE:T.pX x.hs<((T.pick x.hs).cs.map lL).length:=(bp.1 e3).1
 have ne:(T.pick x.hs).id≠x.e:=fun e=>f1 (e▸pi)
 refine UF o hx ⟨_,_,rfl,bw ⟨_,o.l.c0,F9 o.g o.l pn (o.hr _ pi) e3 rfl ⟨_,rfl,⟨_,o.l.c0,rfl⟩,?_⟩⟩⟩
 refine zu (wF.refl o.g) he h1 (PK o hx) (k:=0) (by unfold iM.node;simp) rfl fun ha qa sa nda fa va=>⟨_,rfl,bw ⟨_,(o.l.ex fa.ex).c0,?_⟩⟩
 have pna:nda[(T.pick x.hs).id]?=some ⟨5,(T.pick x.hs).cs.map lL,[]⟩:=by rw [va,if_neg ne];exact pn
 refine zu fa pna (o.hr _ pi) (.inr h1) fE rfl fun hb qb sb ndb fb xm=>⟨_,rfl,?_⟩
 have hv:∀y,ndb[y]?=if y=(T.pick x.hs).id then some ⟨5,((T.pick x.hs).cs.map lL).set (T.pX x.hs) x.e,[]⟩else if y=x.e then some (x.node (lL (T.chain x.hs)))else nd[y]?:=fun y=>by
  rw [xm,va];rfl
 have c':gD ndb (T.fW x.hs (x::T.chain x.hs)) lo z n:=by
  refine o.c.push hx hz f1 f2 f3 (RS.sv o.g.v h1) (RS.sv o.g.v h2) ⟨?_,?_,ok⟩ ?_ ?_ fun i hi n1 n2=>?_
  ·rw [hv,if_neg (Ne.symm ne),if_pos rfl]
  ·rw [hv,if_neg fun e=>f2 (by rw [e];exact pi),if_neg (Ne.symm f3)];exact hk
  ·rw [hv,if_pos rfl]
  ·rw [hv,if_neg (Ne.symm (o.c.n_t x.hs)),if_neg fun e=>f1 (by rw [←e];exact T.jO)];exact o.c.tn
  ·rw [hv,if_neg n2,if_neg fun e=>f1 (by rw [←e];exact hi)]
 refine hR hb qb sb ndb fb (o.fld fb (T.zP _ _).1 c' fun i hi=>?_) hv
 rw [T.uN]at hi
 rcases bI.1 hi with hi|hi
 ·exact o.hr i (bW _ hi)
 ·obtain⟨r,p1,p2⟩:=o.c.lS hx
  have pe:=iT (p2 (x::T.chain x.hs))
  rw [iE,gS]at pe
  have hi:=pe.mem_iff.1 hi
  rcases bI.1 hi with hi|hi
  ·rcases ck.1 hi with rfl|hi
   ·exact h1
   rcases ck.1 hi with rfl|hi
   ·exact h2
   ·exact o.hr i (bK _ (o.c.qy hx i hi))
  ·exact o.hr i (bK _ ((iT p1).mem_iff.2 (by rw [iE];exact bK _ hi)))
theorem aku(l:ti h q tb hn)(f:wF h q s nd h' q' s' gm)(h1:s.da x.e){w r a b:Nat}(hr:r=0∨s.da r)(ha:a<18446744073709551616)(hb:b<18446744073709551616)(he:gm[x.e]?=some (x.node w))
  (hR:∀h2 q2 s2 lT,wF h q s nd h2 q2 s2 lT→(∀y,lT[y]?=if y=x.e then some (({x with r:=r,a:=a,b:=b}:iM).node w)else gm[y]?)→R (vt #[]) h2) :
  bq PG 94 #[vp (sa tb),uv (s.fk x.e),uv (s.fk r),uv a,uv b] h' R:=by
 refine abI ?_
 unfold anH
 refine bw ⟨_,(l.ex f.ex).c0,zu f he h1 hr (k:=2) (by unfold iM.node;simp) rfl fun ha1 qa sa nda fa va=>⟨_,rfl,?_⟩⟩
 have na:nda[x.e]?=some ⟨6,[w,x.k,r],[x.hs,x.a,x.b]⟩:=by rw [va,if_pos rfl];rfl
 refine bw ⟨_,(l.ex fa.ex).c0,vO fa na h1 ha (k:=1) (by simp) rfl fun ha2 qb sb ndb fb xm=>⟨_,rfl,?_⟩⟩
 have nb2:ndb[x.e]?=some ⟨6,[w,x.k,r],[x.hs,a,x.b]⟩:=by rw [xm,if_pos rfl];rfl
 refine bw ⟨_,(l.ex fb.ex).c0,vO fb nb2 h1 hb (k:=2) (by simp) rfl fun ha3 qc sc T7 fc vc=>⟨_,rfl,hR ha3 qc sc T7 fc fun y=>?_⟩⟩
 rw [vc,xm,va]
 by_cases e:y=x.e
 ·rw [if_pos e,if_pos e];rfl
 ·rw [if_neg e,if_neg e,if_neg e,if_neg e]
end
end Go.Ev
