/- Functions that defer calls, for the evaluato. No condition. -/
import Derived.Defers
import Derived.Test.YtjigacanjlppiaaGreatDoorQ4
set_option linter.all false
set_option maxRecDepth 1000000
open Go.IntKind (wrap)
namespace Go.Ev
def qM(P:Program)(f:FuncId)(args:Array Value)(h:Hp)(R:RP):Prop :=
 ∀(w:World) (u:FrameMode),w.heap=h→CallsD P f args u w fun e u' w'=>u'=u∧∃v,e=.returned v∧gj w w'∧R v w'.heap
def DO(T:tD)(o:Oper)(env:LV):Option Deferred :=
 match o.op with
 | .defer c=>match c.callee with
  | .value f=>match dz env f with
   | .func (.func g) first gP=>if T.callee g=true then some {target:=.fn (.func g) gP,args:=(first.toList++c.args.toList.map (dz env)).toArray}else none
   |_=>none
  |_=>none
 |_=>none
def Co(P:Program)(T:tD)(ops:Array Oper):List Oper→List Deferred→LV→Hp→(List Deferred→LV→Hp→Prop)→Prop
 | [],D,env,h,Q=>Q D env h
 |o::rest,D,env,h,Q=>evG ops o env
   (fun hD=>match DO T o hD with
    |some d=>Co P T ops rest (d::D) (A8 hD o.dst undef) h Q
    |none=>G5 P T o hD h fun v h'=>Co P T ops rest D (A8 hD o.dst v) h' Q)
   (fun hD=>Co P T ops rest D (A8 hD o.dst undef) h Q)
abbrev P1:=Exit→List Deferred→LV→Hp→Prop
def ady(next:List Deferred→LV→Hp→Prop)(Q:P1):P1
 | .normal,D,env,h=>next D env h
 |e,D,env,h=>Q e D env h
def DQ(id:Nat)(Q:P1):P1
 | .exit Nn,D,env,h=>if Nn=id then Q .normal D env h else Q (.exit Nn) D env h
 |e,D,env,h=>Q e D env h
def uY(ops:Array Oper):Bool:=ops.toList.all fun o=>match o.op with | .defer _=>false|_=>true
def xi(Q:P1)(D:List Deferred):Kc:=fun e env h=>Q e D env h
def JP(P:Program)(T:tD)(lv:Nat→LN):Code→P1→List Deferred→LV→Hp→Prop
 | .seq a b,Q,D,env,h=>JP P T lv a (ady (JP P T lv b Q) Q) D env h
 | .cond c a b,Q,D,env,h=>match dz env c with
  | .bool t=>bX t (JP P T lv a Q D env h) (JP P T lv b Q D env h)
  |_=>False
 | .block id c,Q,D,env,h=>JP P T lv c (DQ id Q) D env h
 | .region id ops tI,Q,D,env,h=>if tI=true then kJ P T lv (.region id ops tI) (xi Q D) env h else Co P T ops ops.toList D env h (Q .normal)
 | .skip,Q,D,env,h=>Q .normal D env h
 | .ret,Q,D,env,h=>Q .ret D env h
 | .exit id,Q,D,env,h=>Q (.exit id) D env h
 | .loop c,Q,D,env,h=>kJ P T lv (.loop c) (xi Q D) env h
 |_,_,_,_,_=>False
def QZ(w0:World)(Q:P1)(e:Exit)(a:Act)(w:World):Prop :=
 gj w0 w∧∃D env,a=j9 env D∧match e with | .normal=>Q .normal D env w.heap | .exit id=>Q (.exit id) D env w.heap | .ret=>Q .ret D env w.heap|_=>False
section
variable {P:Program} {T:tD} {w0:World}
theorem sT {D:List Deferred}{Q:P1}{e:Exit}{a:Act}{w:World}(h:I1 D w0 (xi Q D) e a w):QZ w0 Q e a w:=by
 obtain⟨hs,env,he,hq⟩:=h
 exact⟨hs,D,env,he,by cases e<;>exact hq⟩
theorem SA(hT:mH P T){o:Oper}{env:LV}{d:Deferred}(h:DO T o env=some d)(w:World):(execOp (dz env) o).run P w=.ok (.defer d) w:=by
 unfold DO at h
 split at h
 ·rename_i c mC
  split at h
  ·rename_i f hf
   split at h
   ·rename_i g first gP hv
    split at h
    ·have h:=bt h
     subst h
     have ha:first++c.args.map (dz env)=(first.toList++c.args.toList.map (dz env)).toArray:=by
      apply gd
      simp
     simp only [execOp,mC,run_bind,resolve,hf,hv,Deferred.ofValue,cH,ha]
    ·cases h
   ·cases h
  ·cases h
 ·cases h
theorem JN(hT:mH P T){ops:Array Oper}{Q:P1}:∀(l:List Oper) (k:Nat) (D:List Deferred) (env:LV) (w:World),(∀i,l[i]?=ops[k+i]?)→gj w0 w →
  Co P T ops l D env w.heap (Q .normal)→wpOps P ops (QZ w0 Q) (List.range' k l.length) (j9 env D) w:=by
 intro l
 induction l with
 |nil=>intro k D env w _ hs h;exact⟨hs,D,env,rfl,h⟩
 |cons o rest ih =>
  intro k D env w hl hs h
  have ho:ops[k]?=some o:=by have:=hl 0;simpa using this.symm
  have Ff:∀i,rest[i]?=ops[k+1+i]?:=fun i=>by have:=hl (i+1);rw [show k+(i+1)=k+1+i by omega]at this;simpa using this
  rw [dF,me,wpOps_cons]
  unfold wpOp
  simp only [ho]
  have e:(j9 env D).tmps=env.toArray:=rfl
  rw [e]
  unfold Co at h
  rcases vq h with⟨hw,h⟩|⟨hw,h⟩
  ·rw [if_pos hw]
   left
   cases hd:DO T o env with
   |some d =>
    simp only [hd]at h
    unfold Oper.wp
    rw [mK,SA hT hd,Oper.upon_defer]
    have e2:({j9 env D with defers:=d::(j9 env D).defers}:Act)=j9 env (d::D):=rfl
    rw [e2,om]
    exact ih (k+1) _ _ w Ff hs h
   |none =>
    simp only [hd]at h
    exact yu.wp hs (nB hT h) fun v w' nq hk=>ih (k+1) D _ w' Ff nq hk
  ·rw [hw]
   simp only [dy,if_false]
   rw [om]
   exact ih (k+1) D _ w Ff hs h
theorem Px {lv:Nat→LN}(hm:P.follows .mixedOrders=true)(hT:mH P T):∀(c:Code),kR c=true→∀(Q:P1) (D:List Deferred) (env:LV) (w:World),gj w0 w →
  JP P T lv c Q D env w.heap→c.wp P (QZ w0 Q) (j9 env D) w:=by
 intro c
 induction c with
 |skip=>exact fun _ Q D env w hs h=>wp_skip ⟨hs,D,env,rfl,h⟩
 |ret=>exact fun _ Q D env w hs h=>wp_ret ⟨hs,D,env,rfl,h⟩
 |exit id=>exact fun _ Q D env w hs h=>wp_exit ⟨hs,D,env,rfl,h⟩
 |seq a b I6 I5 =>
  intro hn Q D env w hs h
  simp only [kR,eD]at hn
  refine wp_seq (wp_mono (I6 hn.1 _ D env w hs h) fun e a' w' hl=>?_)
  obtain⟨nq,D',hD,rfl,hl⟩:=hl
  cases e<;>first|exact hl.elim|exact⟨nq,D',hD,rfl,hl⟩|exact I5 hn.2 Q D' hD w' nq hl
 |cond c a b I6 I5 =>
  intro hn Q D env w hs h
  simp only [kR,eD]at hn
  unfold JP at h
  split at h
  ·rename_i t hc
   have tG:(j9 env D).eval c=.bool t:=by rw [mK];exact hc
   rcases h.split with⟨rfl,hx⟩|⟨rfl,hx⟩
   ·exact wp_cond_true tG (I6 hn.1 Q D env w hs hx)
   ·exact wp_cond_false tG (I5 hn.2 Q D env w hs hx)
  ·exact h.elim
 |block id c ih =>
  intro hn Q D env w hs h
  refine wp_block (wp_mono (ih hn _ D env w hs h) fun e a' w' hl=>?_)
  obtain⟨nq,D',hD,rfl,hl⟩:=hl
  cases e with
  |exit Nn =>
   show if Nn=id then _ else _
   simp only [DQ]at hl
   split at hl
   ·rename_i iA;rw [if_pos iA];exact⟨nq,D',hD,rfl,hl⟩
   ·rename_i iA;rw [if_neg iA];exact⟨nq,D',hD,rfl,hl⟩
  |_=>first|exact hl.elim|exact⟨nq,D',hD,rfl,hl⟩
 |loop c ih =>
  intro hn Q D env w hs h
  exact wp_mono (sF (D:=D) hm hT (.loop c) hn (xi Q D) env w hs h) fun e a' w' hl=>sT hl
 |region id ops tI =>
  intro hn Q D env w hs h
  unfold JP at h
  cases tI with
  |false =>
   simp only [dy,if_false]at h
   refine wp_region ?_
   have:=JN (P:=P) (w0:=w0) hT (ops:=ops) ops.toList 0 D env w (fun i=>by simp) hs h
   rw [fx]at this
   rwa [lC]
  |true =>
   simp only [if_true]at h
   exact wp_mono (sF (D:=D) hm hT (.region id ops true) hn (xi Q D) env w hs h) fun e a' w' hl=>sT hl
 |_=>exact fun _ Q D env w hs h=>h.elim
def Bf(P:Program)(T:tD)(fn:Func)(ik:List VK)(R:RP):List Deferred→LV→Hp→Prop
 | [],env,h=>qU P (results fn env.toArray) ik h fun v _=>R v h
 |d::ds,env,h=>match d.target with
  | .fn (.func g) cap=>bX (T.callee g) (qM P g (d.args.toList++cap.toList).toArray h fun _ h'=>Bf P T fn ik R ds env h') False
  |_=>False
theorem GR(hT:mH P T){fn:Func}{ik:List VK}{R:RP}:∀(D:List Deferred) (env:LV) (w:World),gj w0 w→Bf P T fn ik R D env w.heap →
  Leaves P fn env.toArray (fun e w'=>∃v,e=.returned v∧gj w0 w'∧R v w'.heap) D .returning w:=by
 intro D
 induction D with
 |nil =>
  intro env w hs h
  obtain⟨v,vs,hr,hk⟩:=nm _ _ _ _ h
  exact⟨v,hr,v,rfl,hs,hk⟩
 |cons d ds ih =>
  intro env w hs h
  unfold Bf at h
  split at h
  ·rename_i g cap abc
   obtain⟨hg,h⟩:=f7 h
   refine⟨nofun,.func g,cap,g,(d.args.toList++cap.toList).toArray,abc,?_,(h w .returning rfl).mono fun e u' w' hx=>?_⟩
   ·have hc:=hT.callee g hg (d.args++cap) w
    have e:(d.args.toList++cap.toList).toArray=d.args++cap:=by apply gd;simp
    rw [e,abc]
    simp only [invoke]
    exact hc
   ·obtain⟨rfl,v,rfl,nq,hx⟩:=hx
    exact ih env w' (hs.trans nq) hx
  ·exact h.elim
def ai8(P:Program)(T:tD)(fn:Func)(ik:List VK)(R:RP):P1
 | .normal,D,env,h=>Bf P T fn ik R D env h
 | .ret,D,env,h=>Bf P T fn ik R D env h
 |_,_,_,_=>False
def aow(P:Program)(T:tD)(lv:Nat→LN)(fn:Func)(c:Code)(ik:List VK)(args:LV)(h:Hp)(R:RP):Prop :=
 JP P T lv c (ai8 P T fn ik R) [] (ue fn args) h
theorem Hc {lv:Nat→LN}(hm:P.follows .mixedOrders=true)(hT:mH P T){f:FuncId}{fn:Func}{c:Code}{ik:List VK}{args:LV}{h:Hp}{R:RP}(hf:P.funcs[f]?=some fn)(hb:fn.body=some c)
  (hn:kR c=true) (he:aow P T lv fn c ik args h R):bq P f args.toArray h R:=by
 intro w hw
 subst hw
 refine calls_of_wp_defers hf hb ?_
 have key:=Px (w0:=w) hm hT c hn _ _ _ w (gj.refl _) he
 have e:({tmps:=args.toArray++Array.replicate (fn.ntmps-args.toArray.size) undef,defers:=[]}:Act)=j9 (ue fn args) []:=by
  unfold j9 ue
  congr 1
  apply gd
  simp
 rw [e]
 refine wp_mono key fun e a w' hl=>?_
 obtain⟨hs,D,env,rfl,hl⟩:=hl
 cases e<;>first|exact hl.elim|skip
 all_goals exact GR hT D env w' hs hl
theorem G9 {lv:Nat→LN}(hm:P.follows .mixedOrders=true)(hT:mH P T){f:FuncId}{fn:Func}{c:Code}{ik:List VK}{args:LV}{h:Hp}{R:RP}(hf:P.funcs[f]?=some fn)(hb:fn.body=some c)
  (hn:kR c=true) (he:evF P T lv fn c ik args h R):qM P f args.toArray h R:=by
 intro w u hw
 subst hw
 refine(callsD_of_wp (R:=fun e w'=>∃v,e=.returned v∧gj w w'∧R v w'.heap) hf hb ?_).mono fun e u' w' h=>h
 have key:=sF (D:=[]) (w0:=w) hm hT c hn _ _ w (gj.refl _) he
 have e:({tmps:=args.toArray++Array.replicate (fn.ntmps-args.toArray.size) undef,defers:=[]}:Act)=j9 (ue fn args) []:=by
  unfold j9 ue
  congr 1
  apply gd
  simp
 rw [e]
 refine wp_mono key fun e a w' hl=>?_
 obtain⟨hs,env,rfl,hl⟩:=hl
 cases e<;>first|exact hl.elim|skip
 all_goals
  obtain⟨v,vs,hr,hk⟩:=nm _ _ _ _ hl
  exact⟨rfl,v,hr,v,rfl,hs,hk⟩
end
open Go.Proofs
def aok(a:OA)(h:Hp)(R:RP):Prop:=bq PG 70 #[vp a] h fun r b=>r=vt #[]∧bq PG 71 #[vp a,vi 0] b fun r c=>r=vt #[]∧R (vt #[]:Value) c
theorem ack {a0:OA}{h:Hp}{R:RP}(hF:aok a0 h R):bq PG 32 #[vp a0] h R:=iY (lv:=kw) Tryz.func32 hF
def Mh  (b:OA) (c:Int) (i:Bool) (h:Hp) (R:RP):Prop:=bX i (R (vi 36:Value) h) (bq PG 70 #[vp b] h fun r a=>r=vt #[]∧bE b fun j=>∃d:OA,cell a (j.add 1)=some (vp d)∧∃e:Int,bq PG 86 #[vp d] a (fun v h'=>v=(vi e)∧h'=a)∧bX (decide (e>c)) (R (vi 31:Value) a) (bE b fun k=>∃f:Int,cell a (k.add 6)=some (vi f)∧bE b fun l=>∃g:Int,cell a l=some (vi g)∧bX (decide ((wrap .i64 ((wrap .i64 ((2:Int)*c))+f))>g)) (R (vi 31:Value) a) (bq PG 87 #[vp b,vi c] a fun r m=>r=vt #[]∧R (vi 0:Value) m)))
def aoi(b:OA)(a:Int)(h:Hp)(R:RP):Prop:=bX (decide (a<(64:Int))) (Mh  b a true h R) (Mh  b a (decide (a>(524288:Int))) h R)
theorem acf {a0:OA}{a1:Int}{h:Hp}{R:RP}(hF:aoi a0 a1 h R):bq PG 42 #[vp a0,vi a1] h R:=iY (lv:=kw) Tryz.func42 hF
def Me  (c:Int) (d:Bool) (h:Hp) (R:RP):Prop:=bX d (R (vt #[vp none,vi 30]:Value) h) (gi (h.push (.cells #[vi c,vp none,vp none,.slice none 0 0,.slice none 0 0,.slice none 0 0,vi 0,vi 0,vi 0,.slice none 0 0,vi 0,vi 0,vi 0,vi 0,vi 0,vi 0,vi 0,vi 0,vi 0] 149)) fun e=>bq PG 105 #[vi 64] e fun r f=>∃a:OA,∃g:Int,r=vt #[vp a,vi g]∧St f ((nb h).add 1) (vp a) fun i=>bq PG 105 #[vi 64] i fun r j=>∃b:OA,∃k:Int,r=vt #[vp b,vi k]∧St j ((nb h).add 2) (vp b) fun l=>R ((vt #[vp (some (nb h)),vi 0]:Value)) l)
def aob(a:Int)(h:Hp)(R:RP):Prop:=bX (decide (a<(128:Int))) (Me  a true h R) (Me  a (decide (a>(1048576:Int))) h R)
theorem ab6 {a0:Int}{h:Hp}{R:RP}(hF:aob a0 h R):bq PG 57 #[vi a0] h R:=iY (lv:=kw) Tryz.func57 hF
def Ad(m:Nat):LN:=if m=2 then [0,15,16]else if m=8 then [0,3]else if m=17 then [0,122,123]else []
def Ro(J1:Nat→OA→Int→Int→Hp→Prop)(n1:Nat)(a:OA)(b c:Int)(h:Hp)(R:RP):Prop:=∃m,m<n1∧J1 m a b (wrap .i64 (c+(1:Int))) h
def Fu(J2:Nat→OA→Int→Hp→Prop)(n2:Nat)(b:OA)(i:Int)(z:Bool)(h:Hp)(R:RP):Prop:=bX z (bE b fun A=>∃o:OA,cell h (A.add 2)=some (vp o)∧bq PG 86 #[vp o] h fun r e=>∃p:Int,r=vi p∧bX (decide (i<p)) (bE b fun B=>∃q:OA,cell e (B.add 2)=some (vp q)∧bq PG 120 #[vp b,.iface 144 (vp q),vi i] e fun r C=>∃s:Int,r=vi s∧∃m,m<n2∧J2 m b (wrap .i64 (i+s)) C) (bE b fun D=>∃f:Sl,cell e (D.add 5)=some (.slice f.a f.n f.c)∧(0≤(0:Int)∧(0:Int)<(f.n:Int))∧bE f.a fun E=>∃j:Int,cell e (E.add ((0:Int).toNat*1))=some (vi j)∧bE b fun F=>∃d:Sl,cell e (F.add 5)=some (.slice d.a d.n d.c)∧(0≤(1:Int)∧(1:Int)≤(d.n:Int))∧bE b fun t=>gZ e (t.add 5)∧gi (fy e (t.add 5) (.slice (if d.c=(1:Int).toNat then d.a else Option.map (fun x=>x.add ((1:Int).toNat*1)) d.a) (d.n-(1:Int).toNat) (d.c-(1:Int).toNat))) fun l=>bE b fun G=>∃g:Sl,cell l (G.add 3)=some (.slice g.a g.n g.c)∧(0≤j∧j<(g.n:Int))∧bE g.a fun H=>∃u:OA,cell l (H.add (j.toNat*1))=some (vp u)∧bq PG 120 #[vp b,.iface 144 (vp u),vi 1] l fun r I=>∃J:Int,r=vi J∧∃m,m<n2∧J2 m b i I)) (bE b fun K=>∃v:OA,cell h (K.add 2)=some (vp v)∧bE b fun L=>∃w:OA,cell h (L.add 1)=some (vp w)∧bE b fun M=>St h (M.add 1) (vp v) fun N=>bE b fun O=>St N (O.add 2) (vp w) fun P=>bE b fun Q=>St P (Q.add 6) (vi 0) fun y=>bE b fun S=>∃k:Sl,cell y (S.add 3)=some (.slice k.a k.n k.c)∧dO (kJ PG fN Ad (sub [1,1,1,1,1,1,0,1,0,0] (bd Tryz.f70))) (dW PG fN Ad [1,1,1,1,1,1,0,1,0] (bd Tryz.f70) [] (eJ PG Tryz.f70 [] R)) [(0,vp b),(122,vi (k.n:Int)),(123,vi 0)] 192 y)
abbrev aes(R:RP)(a:OA)(b:Int)(c:Hp):Prop:=dO (kJ PG fN Ad (sub [1,1,1,0,0,0] (bd Tryz.f70))) (dW PG fN Ad [1,1,1,0,0] (bd Tryz.f70) [] (eJ PG Tryz.f70 [] R)) [(0,vp a),(3,vi b)] 192 c
def W9(J1:Nat→OA→Int→Int→Hp→Prop)(n1:Nat)(d:OA)(j b:Int)(g:Nat→Value)(h:Hp)(R:RP):Prop:=bX (decide (b<j)) (bE d fun q=>∃f:Sl,cell h (q.add 9)=some (.slice f.a f.n f.c)∧(0≤b∧b<(f.n:Int))∧bE f.a fun s=>∃k:Bool,cell h (s.add (b.toNat*2))=some (vb k)∧bX k (bE d fun l=>∃e:Sl,cell h (l.add 9)=some (.slice e.a e.n e.c)∧bE d fun t=>∃i:Sl,cell h (t.add 9)=some (.slice i.a i.n i.c)∧(0≤b∧b<(i.n:Int))∧bE i.a fun u=>∃m:Int,cell h ((u.add (b.toNat*2)).add 1)=some (vu m)∧bq PG 119 #[vp d,vu m] h fun r o=>∃p:Int,r=vu p∧CS o (l.add 9) e∧(0≤b∧b<(e.n:Int))∧bE e.a fun v=>St o ((v.add (b.toNat*2)).add 1) (vu p) fun w=>Ro J1 n1 d j b w R) (Ro J1 n1 d j b h R)) (aes R d 1 h)
abbrev anW(R:RP)(a:OA)(b c:Int)(d:Hp):Prop:=dO (kJ PG fN Ad (sub [1,0,1,0,0] (bd Tryz.f70))) (dW PG fN Ad [1,0,1,0] (bd Tryz.f70) [] (eJ PG Tryz.f70 [] R)) [(0,vp a),(15,vi b),(16,vi c)] 192 d
theorem OS {R:RP}{s0:OA}{qS wJ:Int}{h0:Hp}(J:Nat→OA→Int→Int→Hp→Prop)(n0:Nat)(hi:J n0 s0 qS wJ h0)(hr:∀n s0 qS wJ g h,J n s0 qS wJ h→W9  J n s0 qS wJ g h R):anW R s0 qS wJ h0:=iz (l:=[(0,.p),(15,.i .i64),(16,.i .i64)]) (J:=J) (n0:=n0) (s0,qS,wJ,()) hi (fun n s0 qS wJ g h=>W9  J n s0 qS wJ g h R) hr
def W8(J2:Nat→OA→Int→Hp→Prop)(n2:Nat)(b:OA)(e:Int)(g:Nat→Value)(h:Hp)(R:RP):Prop:=bE b fun k=>∃i:OA,cell h (k.add 2)=some (vp i)∧bq PG 86 #[vp i] h fun r f=>∃j:Int,r=vi j∧bX (decide (e<j)) (Fu J2 n2 b e true f R) (bE b fun l=>∃d:Sl,cell f (l.add 5)=some (.slice d.a d.n d.c)∧Fu J2 n2 b e (decide ((d.n:Int)>(0:Int))) f R)
theorem OR {R:RP}{s0:OA}{s3:Int}{h0:Hp}(J:Nat→OA→Int→Hp→Prop)(n0:Nat)(hi:J n0 s0 s3 h0)(hr:∀n s0 s3 g h,J n s0 s3 h→W8  J n s0 s3 g h R):aes R s0 s3 h0:=iz (l:=[(0,.p),(3,.i .i64)]) (J:=J) (n0:=n0) (s0,s3,()) hi (fun n s0 s3 g h=>W8  J n s0 s3 g h R) hr
def W7(J3:Nat→OA→Int→Int→Hp→Prop)(n3:Nat)(b:OA)(k d:Int)(g:Nat→Value)(h:Hp)(R:RP):Prop:=bX (decide (d<k)) (bE b fun D=>∃e:Sl,cell h (D.add 4)=some (.slice e.a e.n e.c)∧(0≤d∧d<(e.n:Int))∧bE e.a fun E=>∃o:Bool,cell h (E.add (d.toNat*1))=some (vb o)∧bX (!o) (bE b fun F=>∃f:Sl,cell h (F.add 3)=some (.slice f.a f.n f.c)∧(0≤d∧d<(f.n:Int))∧bE f.a fun G=>St h (G.add (d.toNat*1)) (vp none) fun H=>∃m,m<n3∧J3 m b k (wrap .i64 (d+(1:Int))) H) (bE b fun I=>∃p:Int,cell h (I.add 6)=some (vi p)∧bE b fun J=>∃i:Sl,cell h (J.add 3)=some (.slice i.a i.n i.c)∧(0≤d∧d<(i.n:Int))∧bE i.a fun K=>∃q:OA,cell h (K.add (d.toNat*1))=some (vp q)∧∃s:Int,bq PG 85 #[vp q] h (fun v h'=>v=(vi s)∧h'=h)∧bE b fun L=>St h (L.add 6) (vi (wrap .i64 (p+s))) fun M=>∃m,m<n3∧J3 m b k (wrap .i64 (d+(1:Int))) M)) (bE b fun N=>∃j:Sl,cell h (N.add 4)=some (.slice j.a j.n j.c)∧ai0 #[vb false] j.a j.n h fun t=>bE b fun O=>∃u:Int,cell t (O.add 6)=some (vi u)∧bE b fun P=>St t (P.add 7) (vi 0) fun Q=>bE b fun S=>St Q (S.add 8) (vi u) fun T=>bE b fun U=>St T (U.add 5) (.slice none 0 0) fun l=>bE b fun V=>∃w:Int,cell l ((V.add 10).add 6)=some (vi w)∧bE b fun x=>gZ l ((x.add 10).add 6)∧gi (fy l ((x.add 10).add 6) (vi (wrap .i64 (w+(1:Int))))) fun y=>bE b fun W=>∃z:OA,cell y (W.add 1)=some (vp z)∧bq PG 86 #[vp z] y fun r A=>∃B:Int,r=vi B∧bE b fun C=>gZ A ((C.add 10).add 8)∧gi (fy A ((C.add 10).add 8) (vi (wrap .i64 (B-(1:Int))))) fun X=>R (vt #[]:Value) X)
abbrev anV(R:RP)(a:OA)(b c:Int)(d:Hp):Prop:=dO (kJ PG fN Ad (sub [1,1,1,1,1,1,0,1,0,0] (bd Tryz.f70))) (dW PG fN Ad [1,1,1,1,1,1,0,1,0] (bd Tryz.f70) [] (eJ PG Tryz.f70 [] R)) [(0,vp a),(122,vi b),(123,vi c)] 192 d
theorem OQ {R:RP}{s0:OA}{EB EA:Int}{h0:Hp}(J:Nat→OA→Int→Int→Hp→Prop)(n0:Nat)(hi:J n0 s0 EB EA h0)(hr:∀n s0 EB EA g h,J n s0 EB EA h→W7  J n s0 EB EA g h R):anV R s0 EB EA h0:=iz (l:=[(0,.p),(122,.i .i64),(123,.i .i64)]) (J:=J) (n0:=n0) (s0,EB,EA,()) hi (fun n s0 EB EA g h=>W7  J n s0 EB EA g h R) hr
def anU(d:OA)(h:Hp)(R:RP):Prop:=bE d fun g=>∃e:OA,cell h (g.add 2)=some (vp e)∧bq PG 118 #[vp e] h fun r f=>r=vt #[]∧bE d fun i=>∃b:Sl,cell f (i.add 9)=some (.slice b.a b.n b.c)∧dO (kJ PG fN Ad (sub [1,0,1,0,0] (bd Tryz.f70))) (dW PG fN Ad [1,0,1,0] (bd Tryz.f70) [] (eJ PG Tryz.f70 [] R)) [(0,vp d),(15,vi (b.n:Int)),(16,vi 0)] 192 f
theorem abV {a0:OA}{h:Hp}{R:RP}(hF:anU a0 h R):bq PG 70 #[vp a0] h R:=iY (lv:=Ad) Tryz.func70 hF
def Rn  (b:OA) (c:Int) (d:Bool) (h:Hp) (R:RP):Prop:=bX d (bq PG 121 #[vi c] h fun r e=>∃a:Int,r=vi a∧bq PG 87 #[vp b,vi a] e fun r f=>r=vt #[]∧R (vt #[]:Value) f) (R (vt #[]:Value) h)
def anT(a:OA)(c:Int)(h:Hp)(R:RP):Prop:=bE a fun k=>∃i:OA,cell h (k.add 1)=some (vp i)∧∃b:Int,bq PG 86 #[vp i] h (fun v h'=>v=(vi b)∧h'=h)∧bE a fun l=>∃j:OA,cell h (l.add 1)=some (vp j)∧∃d:Int,bq PG 85 #[vp j] h (fun v h'=>v=(vi d)∧h'=h)∧bX (decide ((wrap .i64 ((4:Int)*(wrap .i64 (b+c))))>(wrap .i64 ((3:Int)*d)))) (∃e:Int,bq PG 121 #[vi (wrap .i64 (b+c))] h (fun v h'=>v=(vi e)∧h'=h)∧bE a fun m=>∃f:Int,cell h m=some (vi f)∧bE a fun n=>∃g:Int,cell h (n.add 6)=some (vi g)∧(2:Int)≠0∧bX (decide ((if(wrap .i64 (Int.tdiv (wrap .i64 (f-g)) (2:Int)))<e then(wrap .i64 (Int.tdiv (wrap .i64 (f-g)) (2:Int)))else e)>d)) (bq PG 87 #[vp a,vi (if(wrap .i64 (Int.tdiv (wrap .i64 (f-g)) (2:Int)))<e then(wrap .i64 (Int.tdiv (wrap .i64 (f-g)) (2:Int)))else e)] h fun r o=>r=vt #[]∧R (vt #[]:Value) o) (R (vt #[]:Value) h)) (bX (decide (d>(64:Int))) (Rn  a (wrap .i64 (b+c)) (decide ((wrap .i64 ((8:Int)*(wrap .i64 (b+c))))<d)) h R) (Rn  a (wrap .i64 (b+c)) false h R))
theorem abU {a0:OA}{a1:Int}{h:Hp}{R:RP}(hF:anT a0 a1 h R):bq PG 71 #[vp a0,vi a1] h R:=iY (lv:=kw) Tryz.func71 hF
def anS(j:OA)(k l:Int)(h:Hp)(R:RP):Prop:=bq PG 122 #[vp j,vu k] h fun r a=>∃b:Value,∃c:Int,∃d:Bool,r=vt #[b,vi c,vb d]∧bX (!d) (R (vt #[vu 0,vi 32]:Value) a) (∃e:OA,(b:Value)=.iface 144 (vp e)∧bq PG 261 #[vp e,vi c,vi l] a fun r f=>∃g:Int,∃i:Int,r=vt #[vu g,vi i]∧bX (i != (0:Int)) (R (vt #[vu 0,vi 33]:Value) f) (R (vt #[vu g,vi 0]:Value) f))
theorem abT {a0:OA}{a1 a2:Int}{h:Hp}{R:RP}(hF:anS a0 a1 a2 h R):bq PG 72 #[vp a0,vu a1,vi a2] h R:=iY (lv:=kw) Tryz.func72 hF
def W6(e:OA)(b:Int)(h:Hp)(R:RP):Prop:=bq PG 135 #[vp e,vi b] h fun r f=>∃j:Bool,r=vb j∧bX (!j) (R (vi 35:Value) f) (bE e fun o=>∃d:Sl,cell f (o.add 9)=some (.slice d.a d.n d.c)∧(0≤(wrap .i64 (b-(1:Int)))∧(wrap .i64 (b-(1:Int)))<(d.n:Int))∧bE d.a fun g=>gZ f (g.add ((wrap .i64 (b-(1:Int))).toNat*2))∧gi (fy f (g.add ((wrap .i64 (b-(1:Int))).toNat*2)) (vb false)) fun k=>gZ k ((g.add ((wrap .i64 (b-(1:Int))).toNat*2)).add 1)∧gi (fy k ((g.add ((wrap .i64 (b-(1:Int))).toNat*2)).add 1) (vu 0)) fun i=>bE e fun p=>∃l:Int,cell i ((p.add 10).add 5)=some (vi l)∧bE e fun m=>gZ i ((m.add 10).add 5)∧gi (fy i ((m.add 10).add 5) (vi (wrap .i64 (l-(1:Int))))) fun q=>R (vi 0:Value) q)
theorem abS(a0:OA)(a1:Int)(h:Hp)(R:RP):evF PG fN kw Tryz.f84 (bd Tryz.f84) [] [vp a0,vi a1] h R=W6 a0 a1 h R:=by kernel_rfl
theorem abR {a0:OA}{a1:Int}{h:Hp}{R:RP}(hF:W6 a0 a1 h R):bq PG 84 #[vp a0,vi a1] h R:=iY (lv:=kw) Tryz.func84 hF
theorem W5 {a0:OA}{a1:Int}{h:Hp}{R:RP}(hF:W6 a0 a1 h R):qM PG 84 #[vp a0,vi a1] h R :=
 G9 (lv:=kw) (ik:=[]) (c:=(bd Tryz.f84)) (args:=[vp a0,vi a1]) mixed mh Tryz.func84 (by kernel_rfl) (by kernel_rfl) (by rw [abS];exact hF)
def VZ(m:Nat):LN:=if m=5 then [0,1,4,5]else []
def W4(J1:Nat→OA→Int→OA→Int→Hp→Prop)(n1:Nat)(a:OA)(e:Int)(b:OA)(c:Int)(g:Nat→Value)(h:Hp)(R:RP):Prop:=bq PG 86 #[vp b] h fun r f=>∃i:Int,r=vi i∧bX (decide (c<i)) (bq PG 136 #[vp b,vi c] f fun r j=>∃s:Int,∃k:Int,∃l:Int,∃t:Int,r=vt #[vi s,vi k,vi l,vi t]∧bE a fun u=>∃n:OA,cell j (u.add 1)=some (vp n)∧bq PG 137 #[vp n,vp b,vi c] j fun r v=>∃w:Int,∃x:Int,r=vt #[vi w,vi x]∧∃m,m<n1∧J1 m a e b (wrap .i64 (c+(wrap .i64 ((wrap .i64 ((1:Int)+k))+l)))) v) (bq PG 105 #[vi e] f fun r y=>∃o:OA,∃z:Int,r=vt #[vp o,vi z]∧bE a fun A=>St y (A.add 2) (vp o) fun d=>bE a fun B=>∃p:Int,cell d ((B.add 10).add 7)=some (vi p)∧bE a fun q=>gZ d ((q.add 10).add 7)∧gi (fy d ((q.add 10).add 7) (vi (wrap .i64 (p+(1:Int))))) fun C=>R (vt #[]:Value) C)
abbrev anP(R:RP)(a:OA)(b:Int)(c:OA)(d:Int)(e:Hp):Prop:=dO (kJ PG fN VZ (sub [1,1,1,1,0,1,0,0] (bd Tryz.f87))) (dW PG fN VZ [1,1,1,1,0,1,0] (bd Tryz.f87) [] (eJ PG Tryz.f87 [] R)) [(0,vp a),(1,vi b),(4,vp c),(5,vi d)] 74 e
theorem OP {R:RP}{s0:OA}{s1:Int}{s4:OA}{s5:Int}{h0:Hp}(J:Nat→OA→Int→OA→Int→Hp→Prop)(n0:Nat)(hi:J n0 s0 s1 s4 s5 h0)(hr:∀n s0 s1 s4 s5 g h,J n s0 s1 s4 s5 h→W4  J n s0 s1 s4 s5 g h R):anP R s0 s1 s4 s5 h0:=iz (l:=[(0,.p),(1,.i .i64),(4,.p),(5,.i .i64)]) (J:=J) (n0:=n0) (s0,s1,s4,s5,()) hi (fun n s0 s1 s4 s5 g h=>W4  J n s0 s1 s4 s5 g h R) hr
def anO(a:OA)(b:Int)(h:Hp)(R:RP):Prop:=bE a fun i=>∃d:OA,cell h (i.add 1)=some (vp d)∧bq PG 85 #[vp d] h fun r c=>∃e:Int,r=vi e∧bX (b==e) (R (vt #[]:Value) c) (bE a fun j=>∃f:OA,cell c (j.add 1)=some (vp f)∧bE a fun k=>St c (k.add 2) (vp none) fun l=>bq PG 105 #[vi b] l fun r m=>∃g:OA,∃n:Int,r=vt #[vp g,vi n]∧bE a fun o=>St m (o.add 1) (vp g) fun p=>dO (kJ PG fN VZ (sub [1,1,1,1,0,1,0,0] (bd Tryz.f87))) (dW PG fN VZ [1,1,1,1,0,1,0] (bd Tryz.f87) [] (eJ PG Tryz.f87 [] R)) [(0,vp a),(1,vi b),(4,vp f),(5,vi 1)] 74 p)
theorem abO {a0:OA}{a1:Int}{h:Hp}{R:RP}(hF:anO a0 a1 h R):bq PG 87 #[vp a0,vi a1] h R:=iY (lv:=VZ) Tryz.func87 hF
def anN(k:OA)(l:Int)(h:Hp)(R:RP):Prop:=bq PG 122 #[vp k,vu l] h fun r a=>∃b:Value,∃c:Int,∃d:Bool,r=vt #[b,vi c,vb d]∧bX (!d) (R (vt #[vi 0,vi 0,vi 0,vi 32]:Value) a) (∃e:OA,(b:Value)=.iface 144 (vp e)∧bq PG 136 #[vp e,vi c] a fun r m=>∃f:Int,∃g:Int,∃i:Int,∃j:Int,r=vt #[vi f,vi g,vi i,vi j]∧R (vt #[vi f,vi g,vi i,vi j]:Value) m)
theorem abN {a0:OA}{a1:Int}{h:Hp}{R:RP}(hF:anN a0 a1 h R):bq PG 89 #[vp a0,vu a1] h R:=iY (lv:=kw) Tryz.func89 hF
def VY(m:Nat):LN:=if m=5 then [0,1,24,25]else []
def W3(J1:Nat→OA→Int→Int→Int→Hp→Prop)(n1:Nat)(d:OA)(k l b:Int)(g:Nat→Value)(h:Hp)(R:RP):Prop:=bX (decide (b<l)) (bE d fun r=>∃f:Sl,cell h (r.add 9)=some (.slice f.a f.n f.c)∧(0≤b∧b<(f.n:Int))∧bE f.a fun s=>∃o:Bool,cell h (s.add (b.toNat*2))=some (vb o)∧bX (!o) (bE d fun t=>∃i:Sl,cell h (t.add 9)=some (.slice i.a i.n i.c)∧(0≤b∧b<(i.n:Int))∧bE i.a fun p=>St h (p.add (b.toNat*2)) (vb true) fun u=>St u ((p.add (b.toNat*2)).add 1) (vu k) fun v=>R ((vt #[vi (wrap .i64 (b+(1:Int))),vi 0]:Value)) v) (∃m,m<n1∧J1 m d k l (wrap .i64 (b+(1:Int))) h)) (bE d fun w=>∃e:Sl,cell h (w.add 9)=some (.slice e.a e.n e.c)∧gi (h.push (.cells #[vb true,vu k] 189)) fun x=>im 189 2 16 #[vb false,vu 0] e.a e.n e.c (some (nb h)) 1 x fun y z A B=>bE d fun C=>St B (C.add 9) (.slice y z A) fun q=>bE d fun D=>∃j:Sl,cell q (D.add 9)=some (.slice j.a j.n j.c)∧R ((vt #[vi (j.n:Int),vi 0]:Value)) q)
abbrev anM(R:RP)(a:OA)(b c d:Int)(e:Hp):Prop:=dO (kJ PG fN VY (sub [1,1,1,0,1,0,0] (bd Tryz.f90))) (dW PG fN VY [1,1,1,0,1,0] (bd Tryz.f90) [] (eJ PG Tryz.f90 [] R)) [(0,vp a),(1,vu b),(24,vi c),(25,vi d)] 64 e
theorem OO {R:RP}{s0:OA}{s1 Ve Vd:Int}{h0:Hp}(J:Nat→OA→Int→Int→Int→Hp→Prop)(n0:Nat)(hi:J n0 s0 s1 Ve Vd h0)(hr:∀n s0 s1 Ve Vd g h,J n s0 s1 Ve Vd h→W3  J n s0 s1 Ve Vd g h R):anM R s0 s1 Ve Vd h0:=iz (l:=[(0,.p),(1,.i .u64),(24,.i .i64),(25,.i .i64)]) (J:=J) (n0:=n0) (s0,s1,Ve,Vd,()) hi (fun n s0 s1 Ve Vd g h=>W3  J n s0 s1 Ve Vd g h R) hr
def anL(b:OA)(f:Int)(h:Hp)(R:RP):Prop:=bq PG 138 #[vp b,vu f] h fun r d=>∃g:Bool,r=vb g∧bX (!g) (R (vt #[vi 0,vi 32]:Value) d) (bE b fun l=>∃i:Int,cell d ((l.add 10).add 5)=some (vi i)∧bE b fun j=>gZ d ((j.add 10).add 5)∧gi (fy d ((j.add 10).add 5) (vi (wrap .i64 (i+(1:Int))))) fun k=>bE b fun m=>∃e:Sl,cell k (m.add 9)=some (.slice e.a e.n e.c)∧dO (kJ PG fN VY (sub [1,1,1,0,1,0,0] (bd Tryz.f90))) (dW PG fN VY [1,1,1,0,1,0] (bd Tryz.f90) [] (eJ PG Tryz.f90 [] R)) [(0,vp b),(1,vu f),(24,vi (e.n:Int)),(25,vi 0)] 64 k)
theorem abM {a0:OA}{a1:Int}{h:Hp}{R:RP}(hF:anL a0 a1 h R):bq PG 90 #[vp a0,vu a1] h R:=iY (lv:=VY) Tryz.func90 hF
def anK(f:OA)(d:Int)(h:Hp)(R:RP):Prop:=bq PG 135 #[vp f,vi d] h fun r e=>∃g:Bool,r=vb g∧bX (!g) (R (vt #[vu 0,vi 35]:Value) e) (bE f fun j=>∃b:Sl,cell e (j.add 9)=some (.slice b.a b.n b.c)∧(0≤(wrap .i64 (d-(1:Int)))∧(wrap .i64 (d-(1:Int)))<(b.n:Int))∧bE b.a fun k=>∃i:Int,cell e ((k.add ((wrap .i64 (d-(1:Int))).toNat*2)).add 1)=some (vu i)∧R (vt #[vu i,vi 0]:Value) e)
theorem abL {a0:OA}{a1:Int}{h:Hp}{R:RP}(hF:anK a0 a1 h R):bq PG 91 #[vp a0,vi a1] h R:=iY (lv:=kw) Tryz.func91 hF
def Mb  (j:OA) (c d:Int) (e:Value) (f k:Int) (l:Bool) (h:Hp) (R:RP):Prop:=bX l (R (vi 33:Value) h) (bX (decide (c<k)) (bq PG 138 #[vp j,vu d] h fun r g=>∃i:Bool,r=vb i∧bX (!i) (R (vi 32:Value) g) (∃a:OA,(e:Value)=.iface 144 (vp a)∧bq PG 262 #[vp a,vi f,vi c,vu d] g fun r m=>∃b:Int,r=vi b∧R (vi b:Value) m)) (∃a:OA,(e:Value)=.iface 144 (vp a)∧bq PG 262 #[vp a,vi f,vi c,vu d] h fun r n=>∃b:Int,r=vi b∧R (vi b:Value) n))
def anJ(e:OA)(m a f:Int)(h:Hp)(R:RP):Prop:=bq PG 122 #[vp e,vu m] h fun r g=>∃b:Value,∃c:Int,∃i:Bool,r=vt #[b,vi c,vb i]∧bX (!i) (R (vi 32:Value) g) (∃j:OA,(b:Value)=.iface 144 (vp j)∧bq PG 136 #[vp j,vi c] g fun r k=>∃n:Int,∃d:Int,∃l:Int,∃o:Int,r=vt #[vi n,vi d,vi l,vi o]∧bX (decide (a<(0:Int))) (Mb  e a f b c d true k R) (Mb  e a f b c d (decide (a≥(wrap .i64 (d+l)))) k R))
theorem abK {a0:OA}{a1 a2 a3:Int}{h:Hp}{R:RP}(hF:anJ a0 a1 a2 a3 h R):bq PG 92 #[vp a0,vu a1,vi a2,vu a3] h R:=iY (lv:=kw) Tryz.func92 hF
def Bp  (a:OA) (g b c:Int) (t:Bool) (h:Hp) (R:RP):Prop:=bX t (R (vt #[vu 0,vi 34]:Value) h) (bX (decide ((wrap .i64 ((wrap .i64 ((1:Int)+b))+c))>(64:Int))) (bq PG 140 #[vp a,vi g,vi b,vi c,vi (wrap .i64 ((wrap .i64 ((1:Int)+b))+c))] h fun r u=>∃j:Int,∃k:Int,r=vt #[vu j,vi k]∧R (vt #[vu j,vi k]:Value) u) (bE a fun w=>∃l:OA,cell h (w.add 1)=some (vp l)∧∃m:Int,bq PG 86 #[vp l] h (fun v h'=>v=(vi m)∧h'=h)∧bE a fun x=>∃n:OA,cell h (x.add 1)=some (vp n)∧∃o:Int,bq PG 85 #[vp n] h (fun v h'=>v=(vi o)∧h'=h)∧bX (decide ((wrap .i64 (m+(wrap .i64 ((wrap .i64 ((1:Int)+b))+c))))>o)) (bq PG 70 #[vp a] h fun r y=>r=vt #[]∧bq PG 71 #[vp a,vi (wrap .i64 ((wrap .i64 ((1:Int)+b))+c))] y fun r p=>r=vt #[]∧bE a fun i=>∃d:OA,cell p (i.add 1)=some (vp d)∧bq PG 141 #[vp d,vi g,vi b,vi c] p fun r q=>∃e:Int,∃f:Int,r=vt #[vi e,vi f]∧bX (f != (0:Int)) (R (vt #[vu 0,vi 31]:Value) q) (R ((vt #[vu (wrap .u64 e),vi 0]:Value)) q)) (bE a fun i=>∃d:OA,cell h (i.add 1)=some (vp d)∧bq PG 141 #[vp d,vi g,vi b,vi c] h fun r s=>∃e:Int,∃f:Int,r=vt #[vi e,vi f]∧bX (f != (0:Int)) (R (vt #[vu 0,vi 31]:Value) s) (R ((vt #[vu (wrap .u64 e),vi 0]:Value)) s))))
def anD(d:OA)(a b c:Int)(h:Hp)(R:RP):Prop:=bX (decide (a<(1:Int))) (Bp  d a b c true h R) (bX (decide (a>(255:Int))) (Bp  d a b c true h R) (bX (decide (b<(0:Int))) (Bp  d a b c true h R) (bX (decide (b>(1048576:Int))) (Bp  d a b c true h R) (bX (decide (c<(0:Int))) (Bp  d a b c true h R) (Bp  d a b c (decide (c>(1048576:Int))) h R)))))
theorem abG {a0:OA}{a1 a2 a3:Int}{h:Hp}{R:RP}(hF:anD a0 a1 a2 a3 h R):bq PG 96 #[vp a0,vi a1,vi a2,vi a3] h R:=iY (lv:=kw) Tryz.func96 hF
def RG(d:OA)(b:Int)(h:Hp)(R:RP):Prop:=bX (b==(0:Int)) (R (vu 0:Value) h) (bX ((ot .u64 b (9223372036854775808:Int)) != (0:Int)) (bE d fun p=>∃f:Sl,cell h (p.add 4)=some (.slice f.a f.n f.c)∧(0≤(wrap .i64 (jr .u64 b (9223372036854775808:Int)))∧(wrap .i64 (jr .u64 b (9223372036854775808:Int)))<(f.n:Int))∧bE f.a fun q=>∃j:Bool,cell h (q.add ((wrap .i64 (jr .u64 b (9223372036854775808:Int))).toNat*1))=some (vb j)∧bX (!j) (bE d fun s=>∃g:Sl,cell h (s.add 4)=some (.slice g.a g.n g.c)∧(0≤(wrap .i64 (jr .u64 b (9223372036854775808:Int)))∧(wrap .i64 (jr .u64 b (9223372036854775808:Int)))<(g.n:Int))∧bE g.a fun k=>gZ h (k.add ((wrap .i64 (jr .u64 b (9223372036854775808:Int))).toNat*1))∧gi (fy h (k.add ((wrap .i64 (jr .u64 b (9223372036854775808:Int))).toNat*1)) (vb true)) fun i=>bE d fun t=>∃e:Sl,cell i (t.add 5)=some (.slice e.a e.n e.c)∧gi (i.push (.cells #[vi (wrap .i64 (jr .u64 b (9223372036854775808:Int)))] 3)) fun u=>im 3 1 8 #[vi 0] e.a e.n e.c (some (nb i)) 1 u fun v w x y=>bE d fun z=>St y (z.add 5) (.slice v w x) fun A=>R (vu b:Value) A) (R (vu b:Value) h)) (bE d fun B=>∃l:OA,cell h (B.add 2)=some (vp l)∧bE d fun C=>∃m:OA,cell h (C.add 1)=some (vp m)∧bq PG 137 #[vp l,vp m,vi (wrap .i64 b)] h fun r D=>∃o:Int,∃E:Int,r=vt #[vi o,vi E]∧R ((vu (wrap .u64 o):Value)) D))
theorem FC {a0:OA}{a1:Int}{h:Hp}{R:RP}(hF:RG a0 a1 h R):bq PG 119 #[vp a0,vu a1] h R:=iY (lv:=kw) Tryz.func119 hF
def Lg(m:Nat):LN:=if m=3 then [0,1,2,8,9,11]else []
def Pp(J1:Nat→OA→Value→Int→Int→Int→Int→Hp→Prop)(n1:Nat)(e:OA)(a:Value)(c d f b:Int)(g:Nat→Value)(h:Hp)(R:RP):Prop:=bX (decide (b<d)) (∃i:OA,(a:Value)=.iface 144 (vp i)∧bq PG 261 #[vp i,vi c,vi b] h fun r n=>∃j:Int,∃o:Int,r=vt #[vu j,vi o]∧∃m41:Addr,(a:Value)=.iface 144 (vp (some m41))∧bq PG 119 #[vp e,vu j] n fun r p=>∃k:Int,r=vu k∧∃l:OA,(a:Value)=.iface 144 (vp l)∧bq PG 262 #[vp l,vi c,vi b,vu k] p fun r q=>∃s:Int,r=vi s∧∃m,m<n1∧J1 m e a c d f (wrap .i64 (b+(1:Int))) q) (R ((vi (wrap .i64 ((wrap .i64 ((1:Int)+d))+f)):Value)) h)
abbrev aiH(R:RP)(a:OA)(b:Value)(c d e f:Int)(g:Hp):Prop:=dO (kJ PG fN Lg (sub [1,1,0,1,0,0] (bd Tryz.f120))) (dW PG fN Lg [1,1,0,1,0] (bd Tryz.f120) [] (eJ PG Tryz.f120 [] R)) [(0,vp a),(1,b),(2,vi c),(8,vi d),(9,vi e),(11,vi f)] 48 g
theorem MF {R:RP}{s0:OA}{s1:Value}{s2 s8 s9 pc:Int}{h0:Hp}(J:Nat→OA→Value→Int→Int→Int→Int→Hp→Prop)(n0:Nat)(hi:J n0 s0 s1 s2 s8 s9 pc h0)(hr:∀n s0 s1 s2 s8 s9 pc g h,J n s0 s1 s2 s8 s9 pc h→Pp  J n s0 s1 s2 s8 s9 pc g h R):aiH R s0 s1 s2 s8 s9 pc h0:=iz (l:=[(0,.p),(1,.v),(2,.i .i64),(8,.i .i64),(9,.i .i64),(11,.i .i64)]) (J:=J) (n0:=n0) (s0,s1,s2,s8,s9,pc,()) hi (fun n s0 s1 s2 s8 s9 pc g h=>Pp  J n s0 s1 s2 s8 s9 pc g h R) hr
def afm(f:OA)(a:Value)(b:Int)(h:Hp)(R:RP):Prop:=∃c:OA,(a:Value)=.iface 144 (vp c)∧bq PG 136 #[vp c,vi b] h fun r g=>∃i:Int,∃d:Int,∃e:Int,∃j:Int,r=vt #[vi i,vi d,vi e,vi j]∧dO (kJ PG fN Lg (sub [1,1,0,1,0,0] (bd Tryz.f120))) (dW PG fN Lg [1,1,0,1,0] (bd Tryz.f120) [] (eJ PG Tryz.f120 [] R)) [(0,vp f),(1,a),(2,vi b),(8,vi d),(9,vi e),(11,vi 0)] 48 g
theorem Yu {a0:OA}{a1:Value}{a2:Int}{h:Hp}{R:RP}(hF:afm a0 a1 a2 h R):bq PG 120 #[vp a0,a1,vi a2] h R:=iY (lv:=Lg) Tryz.func120 hF
def Lf(m:Nat):LN:=if m=2 then [0,3]else []
def Po(J1:Nat→Int→Int→Hp→Prop)(n1:Nat)(b a:Int)(g:Nat→Value)(h:Hp)(R:RP):Prop:=bX (decide ((wrap .i64 ((4:Int)*b))>(wrap .i64 ((3:Int)*a)))) (∃m,m<n1∧J1 m b (wrap .i64 (a*(2:Int))) h) (R (vi a:Value) h)
abbrev aiG(R:RP)(a b:Int)(c:Hp):Prop:=dO (kJ PG fN Lf (sub [1,1,0,0,0] (bd Tryz.f121))) (dW PG fN Lf [1,1,0,0] (bd Tryz.f121) [] (eJ PG Tryz.f121 [] R)) [(0,vi a),(3,vi b)] 12 c
theorem ME {R:RP}{s0 s3:Int}{h0:Hp}(J:Nat→Int→Int→Hp→Prop)(n0:Nat)(hi:J n0 s0 s3 h0)(hr:∀n s0 s3 g h,J n s0 s3 h→Po  J n s0 s3 g h R):aiG R s0 s3 h0:=iz (l:=[(0,.i .i64),(3,.i .i64)]) (J:=J) (n0:=n0) (s0,s3,()) hi (fun n s0 s3 g h=>Po  J n s0 s3 g h R) hr
def afl(a:Int)(h:Hp)(R:RP):Prop:=dO (kJ PG fN Lf (sub [1,1,0,0,0] (bd Tryz.f121))) (dW PG fN Lf [1,1,0,0] (bd Tryz.f121) [] (eJ PG Tryz.f121 [] R)) [(0,vi a),(3,vi 64)] 12 h
theorem Yt {a0:Int}{h:Hp}{R:RP}(hF:afl a0 h R):bq PG 121 #[vi a0] h R:=iY (lv:=Lf) Tryz.func121 hF
def FB  (f:OA) (d:Int) (g:Bool) (h:Hp) (R:RP):Prop:=bX g (R (vt #[.nilIface,vi 0,vb false]:Value) h) (bE f fun i=>∃b:Sl,cell h (i.add 3)=some (.slice b.a b.n b.c)∧(0≤d∧d<(b.n:Int))∧bE b.a fun j=>∃e:OA,cell h (j.add (d.toNat*1))=some (vp e)∧R ((vt #[.iface 144 (vp e),vi 1,vb true]:Value)) h)
def FA  (b:OA) (c:Int) (g:Bool) (h:Hp) (R:RP):Prop:=bX g (R (vt #[.nilIface,vi 0,vb false]:Value) h) (bE b fun i=>∃d:OA,cell h (i.add 1)=some (vp d)∧bq PG 136 #[vp d,vi (wrap .i64 c)] h fun r a=>∃j:Int,∃k:Int,∃l:Int,∃e:Int,r=vt #[vi j,vi k,vi l,vi e]∧bX (e != (0:Int)) (R (vt #[.nilIface,vi 0,vb false]:Value) a) (bE b fun m=>∃f:OA,cell a (m.add 1)=some (vp f)∧R ((vt #[.iface 144 (vp f),vi (wrap .i64 c),vb true]:Value)) a))
def afk(d:OA)(b:Int)(h:Hp)(R:RP):Prop:=bX ((ot .u64 b (9223372036854775808:Int)) != (0:Int)) (bE d fun k=>∃f:Sl,cell h (k.add 3)=some (.slice f.a f.n f.c)∧bX (decide ((jr .u64 b (9223372036854775808:Int))≥(wrap .u64 (f.n:Int)))) (FB  d (jr .u64 b (9223372036854775808:Int)) true h R) (bE d fun l=>∃e:Sl,cell h (l.add 3)=some (.slice e.a e.n e.c)∧(0≤(jr .u64 b (9223372036854775808:Int))∧(jr .u64 b (9223372036854775808:Int))<(e.n:Int))∧bE e.a fun m=>∃g:OA,cell h (m.add ((jr .u64 b (9223372036854775808:Int)).toNat*1))=some (vp g)∧FB  d (jr .u64 b (9223372036854775808:Int)) (Option.isNone g) h R)) (bX (b==(0:Int)) (FA  d b true h R) (bE d fun o=>∃i:OA,cell h (o.add 1)=some (vp i)∧bq PG 86 #[vp i] h fun r p=>∃j:Int,r=vi j∧FA  d b (decide (b≥(wrap .u64 j))) p R))
theorem Ys {a0:OA}{a1:Int}{h:Hp}{R:RP}(hF:afk a0 a1 h R):bq PG 122 #[vp a0,vu a1] h R:=iY (lv:=kw) Tryz.func122 hF
def afj(f:OA)(b:Int)(h:Hp)(R:RP):Prop:=bX (decide (b≥(1:Int))) (bE f fun i=>∃e:Sl,cell h (i.add 9)=some (.slice e.a e.n e.c)∧bX (decide (b≤(e.n:Int))) (bE f fun j=>∃d:Sl,cell h (j.add 9)=some (.slice d.a d.n d.c)∧(0≤(wrap .i64 (b-(1:Int)))∧(wrap .i64 (b-(1:Int)))<(d.n:Int))∧bE d.a fun k=>∃g:Bool,cell h (k.add ((wrap .i64 (b-(1:Int))).toNat*2))=some (vb g)∧R (vb g:Value) h) (R (vb false:Value) h)) (R (vb false:Value) h)
theorem Yr {a0:OA}{a1:Int}{h:Hp}{R:RP}(hF:afj a0 a1 h R):bq PG 135 #[vp a0,vi a1] h R:=iY (lv:=kw) Tryz.func135 hF
def afh(c:OA)(a:Int)(h:Hp)(R:RP):Prop:=bX (a==(0:Int)) (R (vb true:Value) h) (bq PG 122 #[vp c,vu a] h fun r d=>∃e:Value,∃f:Int,∃b:Bool,r=vt #[e,vi f,vb b]∧R (vb b:Value) d)
theorem Yo {a0:OA}{a1:Int}{h:Hp}{R:RP}(hF:afh a0 a1 h R):bq PG 138 #[vp a0,vu a1] h R:=iY (lv:=kw) Tryz.func138 hF
def xI(m:Nat):LN:=if m=19 then [0,14,158,159]else []
def uu  (b:OA) (m o p e q:Int) (s:Bool) (h:Hp) (R:RP):Prop:=bX s (R (vt #[vu 0,vi 31]:Value) h) (bq PG 87 #[vp b,vi q] h fun r t=>r=vt #[]∧bq PG 105 #[vi e] t fun r u=>∃f:OA,∃v:Int,r=vt #[vp f,vi v]∧bq PG 141 #[vp f,vi m,vi o,vi p] u fun r g=>∃w:Int,∃x:Int,r=vt #[vi w,vi x]∧bE b fun y=>∃i:Int,cell g (y.add 6)=some (vi i)∧bE b fun z=>St g (z.add 6) (vi (wrap .i64 (i+e))) fun j=>bE b fun A=>∃k:Int,cell j (A.add 7)=some (vi k)∧bE b fun B=>St j (B.add 7) (vi (wrap .i64 (k+e))) fun l=>bE b fun C=>∃d:Sl,cell l (C.add 3)=some (.slice d.a d.n d.c)∧dO (kJ PG fN xI (sub [1,1,1,1,1,1,1,1,1,0,1,0,0] (bd Tryz.f140))) (dW PG fN xI [1,1,1,1,1,1,1,1,1,0,1,0] (bd Tryz.f140) [] (eJ PG Tryz.f140 [] R)) [(0,vp b),(14,vp f),(158,vi (d.n:Int)),(159,vi 0)] 208 l)
def Ap  (b:OA) (j k l d:Int) (X:Bool) (h:Hp) (R:RP):Prop:=bX X (bq PG 70 #[vp b] h fun r Y=>r=vt #[]∧bq PG 71 #[vp b,vi 0] Y fun r e=>r=vt #[]∧bE b fun A=>∃o:OA,cell e (A.add 1)=some (vp o)∧∃p:Int,bq PG 85 #[vp o] e (fun v h'=>v=(vi p)∧h'=e)∧bE b fun B=>∃q:Int,cell e (B.add 6)=some (vi q)∧bE b fun C=>∃s:Int,cell e C=some (vi s)∧bX (decide ((wrap .i64 ((wrap .i64 ((wrap .i64 ((2:Int)*p))+q))+d))>s)) (bE b fun D=>∃f:Int,cell e D=some (vi f)∧bE b fun E=>∃g:Int,cell e (E.add 6)=some (vi g)∧(2:Int)≠0∧bE b fun F=>∃t:Int,cell e F=some (vi t)∧bE b fun G=>∃u:Int,cell e (G.add 6)=some (vi u)∧bX (decide ((wrap .i64 ((wrap .i64 (t-u))-d))<(0:Int))) (uu  b j k l d (wrap .i64 (Int.tdiv (wrap .i64 ((wrap .i64 (f-g))-d)) (2:Int))) true e R) (bX (decide ((wrap .i64 (Int.tdiv (wrap .i64 ((wrap .i64 (f-g))-d)) (2:Int)))<(64:Int))) (uu  b j k l d (wrap .i64 (Int.tdiv (wrap .i64 ((wrap .i64 (f-g))-d)) (2:Int))) true e R) (bE b fun H=>∃w:OA,cell e (H.add 1)=some (vp w)∧∃x:Int,bq PG 86 #[vp w] e (fun v h'=>v=(vi x)∧h'=e)∧uu  b j k l d (wrap .i64 (Int.tdiv (wrap .i64 ((wrap .i64 (f-g))-d)) (2:Int))) (decide ((wrap .i64 (Int.tdiv (wrap .i64 ((wrap .i64 (f-g))-d)) (2:Int)))<x)) e R))) (bq PG 105 #[vi d] e fun r Z=>∃m:OA,∃I:Int,r=vt #[vp m,vi I]∧bq PG 141 #[vp m,vi j,vi k,vi l] Z fun r Q=>∃J:Int,∃K:Int,r=vt #[vi J,vi K]∧bE b fun L=>∃y:Int,cell Q (L.add 6)=some (vi y)∧bE b fun M=>St Q (M.add 6) (vi (wrap .i64 (y+d))) fun S=>bE b fun N=>∃z:Int,cell S (N.add 7)=some (vi z)∧bE b fun O=>St S (O.add 7) (vi (wrap .i64 (z+d))) fun T=>bE b fun P=>∃i:Sl,cell T (P.add 3)=some (.slice i.a i.n i.c)∧dO (kJ PG fN xI (sub [1,1,1,1,1,1,1,1,1,0,1,0,0] (bd Tryz.f140))) (dW PG fN xI [1,1,1,1,1,1,1,1,1,0,1,0] (bd Tryz.f140) [] (eJ PG Tryz.f140 [] R)) [(0,vp b),(14,vp m),(158,vi (i.n:Int)),(159,vi 0)] 208 T)) (bE b fun A=>∃o:OA,cell h (A.add 1)=some (vp o)∧∃p:Int,bq PG 85 #[vp o] h (fun v h'=>v=(vi p)∧h'=h)∧bE b fun B=>∃q:Int,cell h (B.add 6)=some (vi q)∧bE b fun C=>∃s:Int,cell h C=some (vi s)∧bX (decide ((wrap .i64 ((wrap .i64 ((wrap .i64 ((2:Int)*p))+q))+d))>s)) (bE b fun D=>∃f:Int,cell h D=some (vi f)∧bE b fun E=>∃g:Int,cell h (E.add 6)=some (vi g)∧(2:Int)≠0∧bE b fun F=>∃t:Int,cell h F=some (vi t)∧bE b fun G=>∃u:Int,cell h (G.add 6)=some (vi u)∧bX (decide ((wrap .i64 ((wrap .i64 (t-u))-d))<(0:Int))) (uu  b j k l d (wrap .i64 (Int.tdiv (wrap .i64 ((wrap .i64 (f-g))-d)) (2:Int))) true h R) (bX (decide ((wrap .i64 (Int.tdiv (wrap .i64 ((wrap .i64 (f-g))-d)) (2:Int)))<(64:Int))) (uu  b j k l d (wrap .i64 (Int.tdiv (wrap .i64 ((wrap .i64 (f-g))-d)) (2:Int))) true h R) (bE b fun H=>∃w:OA,cell h (H.add 1)=some (vp w)∧∃x:Int,bq PG 86 #[vp w] h (fun v h'=>v=(vi x)∧h'=h)∧uu  b j k l d (wrap .i64 (Int.tdiv (wrap .i64 ((wrap .i64 (f-g))-d)) (2:Int))) (decide ((wrap .i64 (Int.tdiv (wrap .i64 ((wrap .i64 (f-g))-d)) (2:Int)))<x)) h R))) (bq PG 105 #[vi d] h fun r aa=>∃m:OA,∃I:Int,r=vt #[vp m,vi I]∧bq PG 141 #[vp m,vi j,vi k,vi l] aa fun r U=>∃J:Int,∃K:Int,r=vt #[vi J,vi K]∧bE b fun L=>∃y:Int,cell U (L.add 6)=some (vi y)∧bE b fun M=>St U (M.add 6) (vi (wrap .i64 (y+d))) fun V=>bE b fun N=>∃z:Int,cell V (N.add 7)=some (vi z)∧bE b fun O=>St V (O.add 7) (vi (wrap .i64 (z+d))) fun W=>bE b fun P=>∃i:Sl,cell W (P.add 3)=some (.slice i.a i.n i.c)∧dO (kJ PG fN xI (sub [1,1,1,1,1,1,1,1,1,0,1,0,0] (bd Tryz.f140))) (dW PG fN xI [1,1,1,1,1,1,1,1,1,0,1,0] (bd Tryz.f140) [] (eJ PG Tryz.f140 [] R)) [(0,vp b),(14,vp m),(158,vi (i.n:Int)),(159,vi 0)] 208 W))
def Pn(J1:Nat→OA→OA→Int→Int→Hp→Prop)(n1:Nat)(d l:OA)(p b:Int)(g:Nat→Value)(h:Hp)(R:RP):Prop:=bX (decide (b<p)) (bE d fun s=>∃i:Sl,cell h (s.add 3)=some (.slice i.a i.n i.c)∧(0≤b∧b<(i.n:Int))∧bE i.a fun t=>∃q:OA,cell h (t.add (b.toNat*1))=some (vp q)∧bX (Option.isNone q) (bE d fun u=>∃j:Sl,cell h (u.add 3)=some (.slice j.a j.n j.c)∧(0≤b∧b<(j.n:Int))∧bE j.a fun v=>St h (v.add (b.toNat*1)) (vp l) fun w=>R ((vt #[vu (Oa .u64 (9223372036854775808:Int) (wrap .u64 b)),vi 0]:Value)) w) (∃m,m<n1∧J1 m d l p (wrap .i64 (b+(1:Int))) h)) (bE d fun x=>∃e:Sl,cell h (x.add 3)=some (.slice e.a e.n e.c)∧gi (h.push (.cells #[vp l] 144)) fun y=>im 144 1 8 #[vp none] e.a e.n e.c (some (nb h)) 1 y fun z A B C=>bE d fun D=>St C (D.add 3) (.slice z A B) fun o=>bE d fun E=>∃f:Sl,cell o (E.add 4)=some (.slice f.a f.n f.c)∧gi (o.push (.cells #[vb false] 4)) fun F=>im 4 1 1 #[vb false] f.a f.n f.c (some (nb o)) 1 F fun G H I J=>bE d fun K=>St J (K.add 4) (.slice G H I) fun r=>bE d fun L=>∃k:Sl,cell r (L.add 3)=some (.slice k.a k.n k.c)∧R ((vt #[vu (Oa .u64 (9223372036854775808:Int) (wrap .u64 (wrap .i64 ((k.n:Int)-(1:Int))))),vi 0]:Value)) r)
abbrev aiF(R:RP)(a b:OA)(c d:Int)(e:Hp):Prop:=dO (kJ PG fN xI (sub [1,1,1,1,1,1,1,1,1,0,1,0,0] (bd Tryz.f140))) (dW PG fN xI [1,1,1,1,1,1,1,1,1,0,1,0] (bd Tryz.f140) [] (eJ PG Tryz.f140 [] R)) [(0,vp a),(14,vp b),(158,vi c),(159,vi d)] 208 e
theorem MC {R:RP}{s0 uP:OA}{Ez Ey:Int}{h0:Hp}(J:Nat→OA→OA→Int→Int→Hp→Prop)(n0:Nat)(hi:J n0 s0 uP Ez Ey h0)(hr:∀n s0 uP Ez Ey g h,J n s0 uP Ez Ey h→Pn  J n s0 uP Ez Ey g h R):aiF R s0 uP Ez Ey h0:=iz (l:=[(0,.p),(14,.p),(158,.i .i64),(159,.i .i64)]) (J:=J) (n0:=n0) (s0,uP,Ez,Ey,()) hi (fun n s0 uP Ez Ey g h=>Pn  J n s0 uP Ez Ey g h R) hr
def aff(a:OA)(c d e b:Int)(h:Hp)(R:RP):Prop:=bE a fun p=>∃f:Int,cell h p=some (vi f)∧bX (decide ((wrap .i64 (b+(1:Int)))>f)) (bq PG 70 #[vp a] h fun r q=>r=vt #[]∧bq PG 71 #[vp a,vi 0] q fun r s=>r=vt #[]∧R (vt #[vu 0,vi 31]:Value) s) (bE a fun t=>∃g:OA,cell h (t.add 1)=some (vp g)∧∃i:Int,bq PG 85 #[vp g] h (fun v h'=>v=(vi i)∧h'=h)∧bE a fun u=>∃j:Int,cell h (u.add 6)=some (vi j)∧bE a fun w=>∃k:Int,cell h w=some (vi k)∧bX (decide ((wrap .i64 ((wrap .i64 ((wrap .i64 ((2:Int)*i))+j))+(wrap .i64 (b+(1:Int)))))>k)) (Ap  a c d e (wrap .i64 (b+(1:Int))) true h R) (bE a fun x=>∃l:Int,cell h (x.add 7)=some (vi l)∧bE a fun y=>∃m:OA,cell h (y.add 1)=some (vp m)∧∃n:Int,bq PG 85 #[vp m] h (fun v h'=>v=(vi n)∧h'=h)∧bE a fun z=>∃o:Int,cell h (z.add 8)=some (vi o)∧Ap  a c d e (wrap .i64 (b+(1:Int))) (decide ((wrap .i64 (l+(wrap .i64 (b+(1:Int)))))>(wrap .i64 (n+o)))) h R))
theorem Ym {a0:OA}{a1 a2 a3 a4:Int}{h:Hp}{R:RP}(hF:aff a0 a1 a2 a3 a4 h R):bq PG 140 #[vp a0,vi a1,vi a2,vi a3,vi a4] h R:=iY (lv:=xI) Tryz.func140 hF
def aeT(l:OA)(m o:Int)(b:Sl)(h:Hp)(R:RP):Prop:=bq PG 122 #[vp l,vu m] h fun r d=>∃e:Value,∃f:Int,∃g:Bool,r=vt #[e,vi f,vb g]∧bX (!g) (R (vi 32:Value) d) (∃i:OA,(e:Value)=.iface 144 (vp i)∧bq PG 263 #[vp i,vi f,vi o,.slice b.a b.n b.c] d fun r j=>∃k:Int,r=vi k∧bX (k != (0:Int)) (R (vi 33:Value) j) (R (vi 0:Value) j))
theorem XU {a0:OA}{a1 a2:Int}{a3:Sl}{h:Hp}{R:RP}(hF:aeT a0 a1 a2 a3 h R):bq PG 184 #[vp a0,vu a1,vi a2,vl a3] h R:=iY (lv:=kw) Tryz.func184 hF
def aeB(l:OA)(m o p:Int)(h:Hp)(R:RP):Prop:=bq PG 122 #[vp l,vu m] h fun r d=>∃e:Value,∃f:Int,∃g:Bool,r=vt #[e,vi f,vb g]∧bX (!g) (R (vt #[.slice none 0 0,vi 32]:Value) d) (∃i:OA,(e:Value)=.iface 144 (vp i)∧bq PG 260 #[vp i,vi f,vi o,vi p] d fun r j=>∃b:Sl,∃k:Int,r=vt #[.slice b.a b.n b.c,vi k]∧bX (k != (0:Int)) (R (vt #[.slice none 0 0,vi 33]:Value) j) (R (vt #[.slice b.a b.n b.c,vi 0]:Value) j))
theorem XA {a0:OA}{a1 a2 a3:Int}{h:Hp}{R:RP}(hF:aeB a0 a1 a2 a3 h R):bq PG 223 #[vp a0,vu a1,vi a2,vi a3] h R:=iY (lv:=kw) Tryz.func223 hF
abbrev qO:Nat:=9223372036854775808
def pS(h:Hp)(bR:Nat→io)(h':Hp)(cR:Nat→io):Prop:=h.size≤h'.size∧(∀b,b<h.size→cR b=bR b)∧∀b,b<h.size→bR b=.out→h'[b]?=h[b]?
theorem pS.refl(h:Hp)(bR:Nat→io):pS h bR h bR:=⟨bH _,fun _ _=>rfl,fun _ _ _=>rfl⟩
theorem pS.trans {a b c:Hp}{ra rb rc:Nat→io}(x:pS a ra b rb)(y:pS b rb c rc):pS a ra c rc :=
 ⟨bP x.1 y.1,fun i hi=>(y.2.1 i (bZ hi x.1)).trans (x.2.1 i hi),fun i hi ho=>(y.2.2 i (bZ hi x.1) ((x.2.1 i hi).trans ho)).trans (x.2.2 i hi ho)⟩
theorem pS.of {h h':Hp}{bR:Nat→io}{S:Nat→Prop}(k:bY S h h')(hS:∀b,S b→bR b≠.out){cR:Nat→io}(hr:∀b,b<h.size→cR b=bR b):pS h bR h' cR :=
 ⟨k.1,hr,fun b hb ho=>k.2 b hb fun s=>hS b s ho⟩
def gC(m:MH)(r:Nat):MH × Nat :=
 if r=0 then(m,0)
 else if qO≤r then
  if m.dL.getD (r-qO) false=true then(m,r)else({m with dL:=m.dL.set (r-qO) true,kS:=m.kS++[r-qO]},r)
 else match(zB m.dJ r).bind (m.dJ[·]?)with
  |some o=>match o.rQ with
   |some t=>(m,t)
   |none=>({m with dJ:=m.dJ.modify ((zB m.dJ r).getD 0) fun o=>{o with rQ:=some (cZ m.dC)},dC:=m.dC++[o]},cZ m.dC)
  |none=>(m,0)
def tJ(G G':xd):Prop:=G'.Lh.pb=G.Lh.pb∧G'.Ls.pb=G.Ls.pb∧G'.jW=G.jW∧G'.ts=G.ts∧G'.tb=G.tb∧G'.bs=G.bs∧G'.bb=G.bb∧G'.rs=G.rs∧G'.rb=G.rb
theorem tJ.refl(G:xd):tJ G G:=⟨rfl,rfl,rfl,rfl,rfl,rfl,rfl,rfl,rfl⟩
theorem tJ.trans {A B C:xd}(x:tJ A B)(y:tJ B C):tJ A C :=
 ⟨y.1.trans x.1,y.2.1.trans x.2.1,y.2.2.1.trans x.2.2.1,y.2.2.2.1.trans x.2.2.2.1,y.2.2.2.2.1.trans x.2.2.2.2.1,y.2.2.2.2.2.1.trans x.2.2.2.2.2.1,y.2.2.2.2.2.2.1.trans x.2.2.2.2.2.2.1,y.2.2.2.2.2.2.2.1.trans x.2.2.2.2.2.2.2.1,y.2.2.2.2.2.2.2.2.trans x.2.2.2.2.2.2.2.2⟩
section
variable {h:Hp} {hb:Nat} {bR:Nat→io} {m:MH} {G:xd}
theorem acP(r:dP h hb bR m G):∀b,G.Lh.fp b→¬G.Ls.fp b:=fun b h1 h2=>by
 have:=r.nu b h1
 rw [r.lN b h2]at this
 cases this
theorem dP.aam(r:dP h hb bR m G){h':Hp}{L':jt}{os DB:List dg}(ha:Ar h' G.Lh m.hz os)(hs:Ar h' L' m.sz DB)(g:ZD h G.Lh G.Ls L' h'):
  dP h' hb (nR bR h.size L'.fp .dC) {m with dJ:=os,dC:=DB} {G with Ls:=L'}∧pS h bR h' (nR bR h.size L'.fp .dC):=by
 obtain⟨g1,g2,g3⟩:=g
 have no:∀b y,bR b=y→y≠.dJ→y≠.dC→¬(G.Lh.fp b∨G.Ls.fp b):=fun b y e h1 h2 s=>by
  rcases s with s|s
  ·exact h1 (e▸r.nu b s)
  ·exact h2 (e▸r.lN b s)
 have fE:∀b,L'.fp b→b<h'.size:=hs.lt
 have tr:∀b y,bR b=y→y≠.out→nR bR h.size L'.fp .dC b=y:=fun b y e hy=>by
  rcases eS b h.size with hl|hl
  ·exact(gh hl).trans e
  ·exact absurd (e▸r.fresh b hl) hy
 refine⟨⟨?_,tr _ _ r.rh nofun,fun b hb=>qp (r.fresh b (bP g3.1 hb)) fun hf=>by have:=fE b hf;omega,ha,fun b hb=>tr _ _ (r.nu b hb) nofun,hs,fun b hb=>?_,
  ir r.bs g3 fun b hb=>no _ _ (r.Ig b hb) nofun nofun,fun b hb=>tr _ _ (r.Ig b hb) nofun,r.ll,fun i o L h1 h2=>?_,ir r.rs g3 fun b hb=>no _ _ (r.Hx b hb) nofun nofun,fun b hb=>tr _ _ (r.Hx b hb) nofun,
  r.gs.gK g3 fun b hb=>no _ _ (r.Jl b hb) nofun nofun,fun b hb=>tr _ _ (r.Jl b hb) nofun,ir r.ts g3 fun b hb=>no _ _ (r.Ki b hb) nofun nofun,fun b hb=>tr _ _ (r.Ki b hb) nofun⟩,?_⟩
 ·have:=bF g3 r.row (no _ _ r.rh nofun nofun)
  unfold kB at this ⊢
  simp only [g1]
  exact this
 ·rcases eS b h.size with hl|hl
  ·rw [gh hl]
   rcases g2 b hb with h|h
   ·exact r.lN b h
   ·omega
  ·exact qq hl hb
 ·have x0:=(r.bl i o L h1 h2).eG g3 fun b hb=>no _ _ hb nofun nofun
  cases o<;>cases L<;>first|exact x0|exact⟨x0.1,fun b hb=>tr _ _ (x0.2 b hb) nofun⟩
 ·exact pS.of (bR:=bR) g3 (fun b s e=>s.elim (fun s=>by rw [r.nu b s]at e;cases e) fun s=>by rw [r.lN b s]at e;cases e) fun b hb=>gh hb
theorem Jg(rp:dP h hb bR m G){r:Nat}(h0:r≠0)(fE:r<qO){i:Nat}{o:dg}(hi:zB m.dJ r=some i)(ho:m.dJ[i]?=some o)(xN:o.rQ=none→cZ m.dC+o.size≤m.sz){R:RP}
  (hR:∀h' cR G',dP h' hb cR (gC m r).1 G'→tJ G G'→pS h bR h' cR→R (uv (gC m r).2) h'):bq PG 119 #[vp (sa hb),uv r] h R:=by
 have Fe:r<9223372036854775808:=fE
 refine FC ?_
 unfold RG
 obtain⟨iZ,wW⟩:=jL.1 hi
 refine cj (by simp;omega) (cj (by rw [DJ Fe];rfl) ?_)
 have c2:cell h ((ad hb).add 2)=some (vp (sa G.Ls.pb)):=(rp.c 2).trans rfl
 have c1:cell h ((ad hb).add 1)=some (vp (sa G.Lh.pb)):=(rp.c 1).trans rfl
 refine bw ⟨_,c2,bw ⟨_,c1,?_⟩⟩
 have hw:wrap .i64 (r:Int)=(pos m.dJ i:Int):=by rw [bU (by omega) (by omega),wW]
 rw [hw]
 have hm0:gC m r=match o.rQ with
   |some t=>(m,t)
   |none=>({m with dJ:=m.dJ.modify i fun o=>{o with rQ:=some (cZ m.dC)},dC:=m.dC++[o]},cZ m.dC):=by
  unfold gC
  rw [if_neg h0,if_neg (by omega),hi]
  simp only [dX,ho,mb]
 obtain⟨TU,fcs,fss,ra⟩:=rp.dJ
 obtain⟨wcd,fcd,fsd,rd⟩:=rp.dC
 cases hf:o.rQ with
 |some t =>
  rw [hf]at hm0
  refine NE ra ho hf ⟨_,_,rfl,?_⟩
  have htl:=(ra.ok o (bx ho)).fw t hf
  rw [eN (by omega) (by omega)]
  rw [hm0]at hR
  exact hR h bR G rp (tJ.refl G) (pS.refl h bR)
 |none =>
  rw [hf]at hm0
  refine Qi ra rd (acP rp) ho hf (xN hf) fun h' Ld' h1 h2 h3=>⟨_,_,rfl,?_⟩
  have:=rd.u
  have:=rd.s
  rw [eN (by omega) (by omega)]
  rw [hm0]at hR
  obtain⟨q1,q2⟩:=rp.aam h1 h2 h3
  exact hR h' _ {G with Ls:=Ld'} q1 ⟨rfl,h3.1,rfl,rfl,rfl,rfl,rfl,rfl,rfl⟩ q2
theorem sQ {sz:Nat}{a:OA}{n c:Nat}{ob:Option Nat}{vs:LV}(s:kM sz h a n c ob vs)(hn:n≠0):∃b,ob=some b∧a=some (ad b):=by
 cases ob with
 |none=>exact absurd (s.nil rfl).2.1 hn
 |some b=>exact⟨b,rfl,(s.row b rfl).1⟩
theorem dP.U1(r:dP h hb bR m G){i:Nat}(hi:i<m.dL.length)(v:Bool):∃b,G.rs.a=some (ad b)∧Go.Ev.gZ h ⟨b,i,none⟩∧dP (fy h ⟨b,i,none⟩ (vb v)) hb bR {m with dL:=m.dL.set i v} G ∧
  pS h bR (fy h ⟨b,i,none⟩ (vb v)) bR:=by
 have hl:=r.rs.len
 rw [bA]at hl
 obtain⟨b,xb,ha⟩:=sQ r.rs (by omega)
 have rs:=r.rs
 rw [xb]at rs
 obtain⟨h1,h2⟩:=rs.set (o:=i) (by rw [bA];exact hi) (vb v)
 have k:bY (fun x=>x=b) h (fy h ⟨b,i,none⟩ (vb v)):=gf h i _ rfl
 have hrb:=r.Hx b xb
 have p:=r.part (x:=.rb) k (fun x e=>.inl (e▸hrb)) (cR:=bR) (fun _ _=>rfl) fun b hb=>r.fresh b (bP k.1 hb)
 refine⟨b,ha,h1,⟨bF k r.row (fun e=>by have:=r.rh;rw [e,hrb]at this;cases this),p.rh,p.fresh,(p.dJ nofun).1,(p.dJ nofun).2,(p.dC nofun).1,(p.dC nofun).2,(p.bs nofun).1,(p.bs nofun).2,p.ll,fun i o L h1 h2=>p.bl i o L nofun h1 h2,?_,r.Hx,
  (p.gs nofun).1,(p.gs nofun).2,(p.ts nofun).1,(p.ts nofun).2⟩,pS.of (bR:=bR) k (fun x e=>by rw [e,hrb];nofun) fun _ _=>rfl⟩
 rw [xb]
 show kM 1 _ _ _ _ _ ((m.dL.set i v).map Value.bool)
 rw [ig]
 exact h2
theorem dP.KO(r:dP h hb bR m G){i:Nat}(hi:i<m.dL.length):∃b,G.rs.a=some (ad b)∧cell h ((ad b).add (i*1))=some (vb (m.dL.getD i false))∧i<G.rs.n:=by
 have hl:=r.rs.len
 rw [bA]at hl
 obtain⟨b,xb,ha⟩:=sQ r.rs (by omega)
 have rs:=r.rs
 rw [xb]at rs
 refine⟨b,ha,?_,by omega⟩
 rw [cm,cQ,rs.cell (by rw [bA];exact hi),bD,bB,br hi]
 rfl
theorem dP.Vw(r:dP h hb bR m G){x:Nat}(o0:m.kS.length<10000000){K:Hp→Prop}(hK:∀h' cR G',dP h' hb cR {m with kS:=m.kS++[x]} G'→tJ G G'→pS h bR h' cR→K h') :
  gi (h.push (.cells #[nv x] 3)) fun h2=>im 3 1 8 #[vi 0] G.gs.a G.gs.n G.gs.c (some (nb h)) 1 h2 fun ra rn rc h3=>bE (sa hb) fun p=>Go.Ev.St h3 (p.add 5) (.slice ra rn rc) fun h4=>K h4:=by
 refine dh fun h2 e2=>?_
 have k2:bY N h h2:=e2▸cF _ _ _
 have r2:=r.eG k2 fun _ e=>e.elim
 have mi:eM h2 h.size [nv x]:=e2▸du h #[nv x] 3
 have hz2:h2.size=h.size+1:=by rw [e2];simp
 have hl:=r.gs.len
 rw [bA]at hl
 refine⟨[nv x],lQ mi (fun j v hj=>by rw [fo];exact hj),rfl,?_⟩
 refine acQ r2.gs rfl rfl (by intro v hv;obtain rfl:=bM.1 hv;rfl) (by omega) (by omega) fun a' c' jK h3 s3 vj=>bw ?_
 have LI:=r2.fE
 have key:∀ut,jK=some ut→(bR ut=.gb∨h2.size≤ut)→bY (fun b=>bR b=.gb) h2 h3→Go.Ev.St h3 ((ad hb).add 5) (.slice a' (G.gs.n+1) c') fun h4=>K h4:=by
  rintro ut rfl LM k3
  have e5:(ad hb).add 5=⟨hb,5,none⟩:=cm _ _
  rw [e5]
  have LD:eM h3 hb (kB m G):=bF k3 r2.row fun e=>by rw [r2.rh]at e;cases e
  refine⟨jH LD (by show 5<19;omega),dh fun h4 e4=>?_⟩
  have k4:bY (fun b=>b=hb) h3 h4:=e4▸gf h3 5 _ rfl
  have Dm:bY (fun b=>bR b=.gb∨b=hb) h2 h4:=⟨bP k3.1 k4.1,fun b WJ hn=>(k4.2 b (bZ WJ k3.1) (fun e=>hn (.inr e))).trans (k3.2 b WJ fun e=>hn (.inl e))⟩
  have hgl:ut<h4.size:=bZ s3.lt k4.1
  have p:=r2.part (x:=.gb) Dm (fun b e=>e.elim .inl fun e=>.inr (.inl (e▸r2.rh))) (cR:=nR bR h2.size (fun b=>b=ut) .gb) (fun b hb=>gh hb) fun b hb=>qp (r2.fresh b (bP Dm.1 hb)) fun e=>by omega
  have hg4:nR bR h2.size (fun b=>b=ut) .gb ut=.gb:=by
   rcases eS ut h2.size with hl|hl
   ·rw [gh hl];exact LM.resolve_right (by omega)
   ·exact qq hl rfl
  have iS:ut≠hb:=fun e=>by
   rcases LM with h|h
   ·rw [e,r2.rh]at h;cases h
   ·omega
  have Wr:eM h4 hb (kB {m with kS:=m.kS++[x]} {G with gs:=⟨a',G.gs.n+1,c'⟩,gb:=some ut}):=by
   rw [e4]
   exact hG LD 5 _
  refine hK h4 _ {G with gs:=⟨a',G.gs.n+1,c'⟩,gb:=some ut} ⟨Wr,p.rh,p.fresh,(p.dJ nofun).1,(p.dJ nofun).2,(p.dC nofun).1,(p.dC nofun).2,(p.bs nofun).1,(p.bs nofun).2,p.ll,fun i o L h1 h2=>p.bl i o L nofun h1 h2,
   (p.rs nofun).1,(p.rs nofun).2,?_,fun b e=>by obtain rfl:=bt e;exact hg4,(p.ts nofun).1,(p.ts nofun).2⟩ (tJ.refl G) ?_
  ·show Hd 1 h4 a' (G.gs.n+1) c' (some ut) ((m.kS++[x]).map nv)
   rw [cx]
   exact s3.gK k4 fun b e=>by obtain rfl:=bt e;exact iS
  ·refine⟨bP k2.1 Dm.1,fun b WJ=>gh (by omega),fun b WJ ho=>?_⟩
   rw [Dm.2 b (by omega) fun e=>e.elim (fun e=>by rw [ho]at e;cases e) fun e=>by rw [e,r2.rh]at ho;cases ho]
   exact k2.2 b WJ id
 rcases vj with⟨rfl,k3⟩|⟨rfl,k3⟩
 ·cases LM:G.gb with
  |none =>
   rw [LM]at s3
   exact absurd (s3.nil rfl).2.1 (by omega)
  |some ut =>
   refine key ut LM (.inl (r2.Jl ut LM)) (k3.mono fun b _ e=>?_)
   rw [LM]at e
   obtain rfl:=bt e
   exact r2.Jl _ LM
 ·exact key h2.size rfl (.inr (bH _)) (k3.mono fun _ _ e=>e.elim)
theorem CY(m:MH)(s:Nat):gC m (qO+s)=if m.dL.getD s false=true then(m,qO+s)else({m with dL:=m.dL.set s true,kS:=m.kS++[s]},qO+s):=by
 unfold gC
 have ht:qO=9223372036854775808:=rfl
 rw [if_neg (show ¬qO+s=0 by omega),if_pos (qC qO s),fm]
theorem So {s:Nat}(h2:qO+s<18446744073709551616):wrap .i64 (jr .u64 ((qO+s:Nat):Int) (9223372036854775808:Int))=(s:Int):=by
 have ht:qO=9223372036854775808:=rfl
 have h3:s<9223372036854775808:=by omega
 rw [aox (by omega) (by omega),bU (by omega) (by omega)]
 omega
theorem Ow(rp:dP h hb bR m G){s:Nat}(hr:qO+s<18446744073709551616)(ad6:s<m.dL.length)(hg:m.kS.length<10000000){R:RP}
  (hR:∀h' cR G',dP h' hb cR (gC m (qO+s)).1 G'→tJ G G'→pS h bR h' cR→R (uv (gC m (qO+s)).2) h'):bq PG 119 #[vp (sa hb),uv (qO+s)] h R:=by
 rw [CY]at hR
 have ht:qO=9223372036854775808:=rfl
 generalize hrr:qO+s=r at hr hR
 have atU:9223372036854775808≤r:=by omega
 have Kl:wrap .i64 (jr .u64 (r:Int) (9223372036854775808:Int))=(s:Int):=by rw [←hrr];exact So (by omega)
 refine FC ?_
 unfold RG
 refine cj (by simp;omega) (cr (by rw [Bk atU hr];rfl) ?_)
 simp only [Kl,bu]
 have c4:cell h ((ad hb).add 4)=some (.slice G.rs.a G.rs.n G.rs.c):=(rp.c 4).trans rfl
 obtain⟨b,ha,kY,GX⟩:=rp.KO ad6
 have cb:(0:Int)≤(s:Int)∧(s:Int)<(G.rs.n:Int):=by omega
 refine bw ⟨G.rs,c4,cb,cW ha ⟨_,kY,?_⟩⟩
 cases C2:m.dL.getD s false with
 |true =>
  rw [C2,if_pos rfl]at hR
  exact cj rfl (hR h bR G rp (tJ.refl G) (pS.refl h bR))
 |false =>
  rw [C2,if_neg nofun]at hR
  refine cr rfl (bw ⟨G.rs,c4,cb,cW ha ?_⟩)
  obtain⟨b',AK,GV,ng,x1⟩:=rp.U1 ad6 true
  rw [ha]at AK
  obtain rfl:b=b':=by simpa [ad]using AK
  have ea:(ad b).add (s*1)=⟨b,s,none⟩:=by rw [cm,cQ]
  simp only [ea]
  refine⟨GV,dh fun h1 e1=>?_⟩
  rw [←e1]at ng x1
  have c5:cell h1 ((ad hb).add 5)=some (.slice G.gs.a G.gs.n G.gs.c):=(ng.c 5).trans rfl
  refine bw ⟨G.gs,c5,?_⟩
  exact ng.Vw (x:=s) hg fun h' cR G' wR hh xx=>hR h' cR G' wR hh (x1.trans xx)
theorem Ov(rp:dP h hb bR m G){R:RP}(hR:R (uv 0) h):bq PG 119 #[vp (sa hb),uv 0] h R:=by
 refine FC ?_
 unfold RG
 exact cr rfl hR
end
inductive AG where
 |sp (k:Nat)
 |sl (i:Nat)
def MH.at(m:MH):AG→Option dg
 | .sp k=>m.dC[k]?
 | .sl i=>(m.blocks[i]?).bind id
def MH.iI(m:MH)(t:AG)(j v:Nat):MH :=
 match t with
 | .sp k=>{m with dC:=m.dC.modify k fun o=>o.iI j v}
 | .sl i=>{m with blocks:=m.blocks.modify i fun o=>o.map fun o=>o.iI j v}
def pT(m:MH)(t:AG):Nat→MH
 | 0=>m
 |n+1 =>
  match(pT m t n).at t with
  |some o=>((gC (pT m t n) (o.fA.getD n 0)).1).iI t n (gC (pT m t n) (o.fA.getD n 0)).2
  |none=>pT m t n
def AG.loc(m:MH)(G:xd):AG→Option (Nat × Int)
 | .sp k=>some (G.Ls.pb,(pos m.dC k:Int))
 | .sl i=>match G.jW[i]? with|some (some L)=>some (L.pb,1)|_=>none
section
variable {h:Hp} {hb:Nat} {bR:Nat→io} {m:MH} {G:xd}
theorem Z5(r:dP h hb bR m G){t:AG}{o:dg}(ho:m.at t=some o)(hf:o.rQ=none){pb:Nat}{iL:Int}(hl:t.loc m G=some (pb,iL)) {j:Nat} {v:Nat} (hv:o.fA[j]?=some v) {R:RP}
  (hR:R (vt #[uv v,vi 0]) h):bq PG 261 #[vp (sa pb),vi iL,vi (j:Int)] h R:=by
 have nA:∀(L:jt) (sz:Nat) (os:List dg) (i:Nat),Ar h L sz os→os[i]?=some o→L.pb=pb→iL=(pos os i:Int)→bq PG 261 #[vp (sa pb),vi iL,vi (j:Int)] h R:=by
  rintro L sz os i ⟨wc,fc,fs,ra⟩ hi rfl rfl
  refine R7 ra ?_
  have:OE os (pos os i:Int) (j:Int)=vt #[uv v,vi 0]:=by
   unfold OE
   rw [iD,lA (bp.1 hi).1]
   simp only [dX,hi,hf]
   rw [if_pos (by omega),bu,hv]
  rw [this]
  exact hR
 cases t with
 |sp k =>
  simp only [AG.loc,dx,fP]at hl
  exact nA G.Ls m.sz m.dC k r.dC ho hl.1 hl.2.symm
 |sl i =>
  simp only [AG.loc]at hl
  cases hL:G.jW[i]? with
  |none=>rw [hL]at hl;simp at hl
  |some L =>
   cases L with
   |none=>rw [hL]at hl;simp at hl
   |some L =>
    rw [hL]at hl
    simp only [dx,fP]at hl
    have hm:m.blocks[i]?=some (some o):=by
     have ho:(m.blocks[i]?).bind id=some o:=ho
     cases hx:m.blocks[i]? with
     |none=>rw [hx]at ho;cases ho
     |some x=>rw [hx]at ho;exact congrArg some ho
    have zd:=r.bl i _ _ hm hL
    exact nA L (o.size+1) [o] 0 zd.1 rfl hl.1 hl.2.symm
theorem Oc {α:Type}{l:List α}{i:Nat}{x:α}(hx:l[i]?=some x)(f:α→α):l.modify i f=l.set i (f x):=by
 apply cG
 intro j
 have hi:=(bp.1 hx).1
 rw [dQ]
 by_cases zc:i=j
 ·subst zc
  rw [hx,cE hi]
  show some _=some _
  simp
 ·rw [dl zc]
  cases l[j]? with
  |none=>rfl
  |some y=>show some _=some _;simp [zc]
theorem Z2(r:dP h hb bR m G){t:AG}{o:dg}(ho:m.at t=some o)(hf:o.rQ=none){pb:Nat}{iL:Int}(hl:t.loc m G=some (pb,iL)) {j:Nat} {v:Nat} (hj:j<o.fA.length) (hv:v<18446744073709551616) {R:RP}
  (hR:∀h' cR G',dP h' hb cR (m.iI t j v) G'→tJ G G'→pS h bR h' cR→R (vi 0) h'):bq PG 262 #[vp (sa pb),vi iL,vi (j:Int),uv v] h R:=by
 have nA:∀(L:jt) (sz:Nat) (os:List dg) (i:Nat),Ar h L sz os→os[i]?=some o→L.pb=pb→iL=(pos os i:Int) →
   (∀h',Ar h' L sz (os.modify i fun o=>o.iI j v)→bY L.fp h h'→R (vi 0) h')→bq PG 262 #[vp (sa pb),vi iL,vi (j:Int),uv v] h R:=by
  rintro L sz os i ⟨wc,fc,fs,ra⟩ hi rfl rfl hk
  have iZ:=(bp.1 hi).1
  have hE:GB os (pos os i:Int) (j:Int)=0:=by
   unfold GB
   rw [iD,lA iZ]
   simp only [dX,hi,hf]
   rw [if_pos ⟨by omega,by omega⟩]
  refine R4 ra hv (fun he=>absurd hE he) fun i' o' k h' h1 h2 h3 h4 h5 h6 h7=>?_
  rw [iD,lA iZ]at h1
  obtain rfl:=bt h1
  obtain rfl:j=k:=by omega
  exact hk h' ⟨_,_,_,h6⟩ h7
 cases t with
 |sp k =>
  simp only [AG.loc,dx,fP]at hl
  refine nA G.Ls m.sz m.dC k r.dC ho hl.1 hl.2.symm fun h' ha hk=>?_
  have g:Grown h G.Ls G.Ls h':=⟨rfl,fun _=>.inl,hk⟩
  exact hR h' _ G (r.KE ha g) (tJ.refl G) (pS.of (bR:=bR) hk (fun b hb=>by rw [r.lN b hb];nofun) fun b hb=>gh hb)
 |sl i =>
  simp only [AG.loc]at hl
  cases hL:G.jW[i]? with
  |none=>rw [hL]at hl;simp at hl
  |some L =>
   cases L with
   |none=>rw [hL]at hl;simp at hl
   |some L =>
    rw [hL]at hl
    simp only [dx,fP]at hl
    have hm:m.blocks[i]?=some (some o):=by
     have ho:(m.blocks[i]?).bind id=some o:=ho
     cases hx:m.blocks[i]? with
     |none=>rw [hx]at ho;cases ho
     |some x=>rw [hx]at ho;exact congrArg some ho
    have zd:=r.bl i _ _ hm hL
    refine nA L (o.size+1) [o] 0 zd.1 rfl hl.1 hl.2.symm fun h' ha hk=>?_
    have hs:=r.Qw hm hL (o':=o.iI j v) (o.BP j v) ha hk
    have e:m.iI (.sl i) j v={m with blocks:=m.blocks.set i (some (o.iI j v))}:=by
     show ({m with blocks:=_}:MH)=_
     rw [Oc hm]
     rfl
    rw [e]at hR
    exact hR h' bR G hs (tJ.refl G) (pS.of (bR:=bR) hk (fun b hb=>by rw [zd.2 b hb];nofun) fun _ _=>rfl)
theorem Z3(r:dP h hb bR m G){t:AG}{o:dg}(ho:m.at t=some o)(hf:o.rQ=none){pb:Nat}{iL:Int}(hl:t.loc m G=some (pb,iL)) {R:RP}
  (hR:R (vt #[vi (o.kind:Int),vi (o.cY.length:Int),vi (o.cN.length:Int),vi 0]) h):bq PG 136 #[vp (sa pb),vi iL] h R:=by
 have nA:∀(L:jt) (sz:Nat) (os:List dg) (i:Nat),Ar h L sz os→os[i]?=some o→L.pb=pb→iL=(pos os i:Int)→bq PG 136 #[vp (sa pb),vi iL] h R:=by
  rintro L sz os i ⟨wc,fc,fs,ra⟩ hi rfl rfl
  refine qz ra ?_
  have:xF os (pos os i:Int)=vt #[vi (o.kind:Int),vi (o.cY.length:Int),vi (o.cN.length:Int),vi 0]:=by
   unfold xF
   rw [iD,lA (bp.1 hi).1]
   simp only [dX,hi,hf]
  rw [this]
  exact hR
 cases t with
 |sp k =>
  simp only [AG.loc,dx,fP]at hl
  exact nA G.Ls m.sz m.dC k r.dC ho hl.1 hl.2.symm
 |sl i =>
  simp only [AG.loc]at hl
  cases hL:G.jW[i]? with
  |none=>rw [hL]at hl;simp at hl
  |some L =>
   cases L with
   |none=>rw [hL]at hl;simp at hl
   |some L =>
    rw [hL]at hl
    simp only [dx,fP]at hl
    have hm:m.blocks[i]?=some (some o):=by
     have ho:(m.blocks[i]?).bind id=some o:=ho
     cases hx:m.blocks[i]? with
     |none=>rw [hx]at ho;cases ho
     |some x=>rw [hx]at ho;exact congrArg some ho
    have zd:=r.bl i _ _ hm hL
    exact nA L (o.size+1) [o] 0 zd.1 rfl hl.1 hl.2.symm
def PZ(m:MH)(r:Nat):Prop:=m.kS.length<10000000∧(r=0∨(∃s,r=qO+s∧s<m.dL.length∧qO+s<18446744073709551616) ∨
 (r≠0∧r<qO∧∃i o,zB m.dJ r=some i∧m.dJ[i]?=some o∧(o.rQ=none→cZ m.dC+o.size≤m.sz)))
theorem E0(m:MH):gC m 0=(m,0):=by unfold gC;rw [if_pos rfl]
theorem Fc(rp:dP h hb bR m G){r:Nat}(hm:PZ m r){R:RP}
  (hR:∀h' cR G',dP h' hb cR (gC m r).1 G'→tJ G G'→pS h bR h' cR→R (uv (gC m r).2) h'):bq PG 119 #[vp (sa hb),uv r] h R:=by
 obtain⟨hg,rfl|⟨s,rfl,h1,h2⟩|⟨h0,h1,i,o,h2,h3,h4⟩⟩:=hm
 ·rw [E0]at hR
  exact Ov rp (hR h bR G rp (tJ.refl G) (pS.refl h bR))
 ·exact Ow rp h2 h1 hg hR
 ·exact Jg rp h0 h1 h2 h3 h4 hR
theorem Bd(m:MH)(r:Nat):∃l,(gC m r).1.dC=m.dC++l:=by
 unfold gC
 split
 ·exact⟨[],by simp⟩
 ·split
  ·split
   ·exact⟨[],by simp⟩
   ·exact⟨[],by simp⟩
  ·split
   ·split
    ·exact⟨[],by simp⟩
    ·exact⟨_,rfl⟩
   ·exact⟨[],by simp⟩
theorem GQ(m:MH)(r:Nat):(gC m r).1.blocks=m.blocks:=by
 unfold gC
 split
 ·rfl
 ·split
  ·split<;>rfl
  ·split
   ·split<;>rfl
   ·rfl
theorem SV(m:MH)(r:Nat){t:AG}{o:dg}(ho:m.at t=some o):(gC m r).1.at t=some o:=by
 cases t with
 |sp k =>
  obtain⟨l,hl⟩:=Bd m r
  show (gC m r).1.dC[k]?=some o
  rw [hl,bL (bp.1 (show m.dC[k]?=some o from ho)).1]
  exact ho
 |sl i =>
  show ((gC m r).1.blocks[i]?).bind id=some o
  rw [GQ]
  exact ho
theorem SZ(m:MH)(r:Nat){t:AG}{o:dg}(ho:m.at t=some o){G':xd}(hh:tJ G G'){x:Nat × Int}(hl:t.loc m G=some x):t.loc (gC m r).1 G'=some x:=by
 cases t with
 |sp k =>
  obtain⟨l,HX⟩:=Bd m r
  have hk:=(bp.1 (show m.dC[k]?=some o from ho)).1
  have hp:pos (gC m r).1.dC k=pos m.dC k:=by
   unfold pos
   rw [HX,gB (by omega)]
  rw [←hl]
  simp only [AG.loc,hp,hh.2.1]
 |sl i =>
  rw [←hl]
  simp only [AG.loc,hh.2.2.1]
theorem Wa(m:MH)(j v:Nat){t:AG}{G':xd}(hh:tJ G G'){x:Nat × Int}(hl:t.loc m G=some x):t.loc (m.iI t j v) G'=some x:=by
 cases t with
 |sp k =>
  have hp:pos (m.iI (.sp k) j v).dC k=pos m.dC k:=vP fun o=>o.BP j v
  rw [←hl]
  simp only [AG.loc,hp,hh.2.1]
 |sl i =>
  rw [←hl]
  simp only [AG.loc,hh.2.2.1]
structure ZA (m:MH) (t:AG) (o:dg):Prop where
 at0:m.at t=some o
 rQ:o.rQ=none
 ok:∀n,n<o.cY.length→∃o',(pT m t n).at t=some o'∧o'.rQ=none∧o'.cY.length=o.cY.length∧o'.cN.length=o.cN.length∧o'.fA.getD n 0<18446744073709551616 ∧
  PZ (pT m t n) (o'.fA.getD n 0)∧(gC (pT m t n) (o'.fA.getD n 0)).2<18446744073709551616
theorem Ab(m:MH)(t:AG)(n:Nat){o':dg}(ho:(pT m t n).at t=some o') :
  pT m t (n+1)=((gC (pT m t n) (o'.fA.getD n 0)).1).iI t n (gC (pT m t n) (o'.fA.getD n 0)).2:=by
 show (match(pT m t n).at t with|some o=>_|none=>_)=_
 rw [ho]
theorem QX(rp:dP h hb bR m G){t:AG}{o:dg}(hk:ZA m t o)(ho:o.Ok){pb:Nat}{iL:Int}(hl:t.loc m G=some (pb,iL)) {R:RP}
  (hR:∀h' cR G',dP h' hb cR (pT m t o.cY.length) G'→tJ G G'→pS h bR h' cR→R (vi (o.size:Nat)) h') :
  bq PG 120 #[vp (sa hb),.iface 144 (vp (sa pb)),vi iL] h R:=by
 refine Yu ?_
 unfold afm
 have hnr:=ho.nr
 have hnw:=ho.nw
 refine⟨_,rfl,Z3 rp hk.at0 hk.rQ hl ⟨_,_,_,_,rfl,?_⟩⟩
 refine MF (fun q s0 s1 s2 s8 s9 pc h'=>∃(k:Nat) (cR:Nat→io) (G':xd),k≤o.cY.length∧q=o.cY.length-k∧s0=some (ad hb)∧s1=.iface 144 (vp (sa pb))∧s2=iL∧s8=(o.cY.length:Int)∧s9=(o.cN.length:Int)∧pc=k ∧
  dP h' hb cR (pT m t k) G'∧tJ G G'∧pS h bR h' cR∧t.loc (pT m t k) G'=some (pb,iL)) o.cY.length
  ⟨0,bR,G,by omega,rfl,rfl,rfl,rfl,rfl,rfl,rfl,rp,tJ.refl G,pS.refl h bR,hl⟩ ?_
 rintro q s0 s1 s2 s8 s9 pc g h1 ⟨k,tT,G1,hk1,rfl,rfl,rfl,rfl,rfl,rfl,rfl,ng,ZO,x1,hl1⟩
 unfold Pp
 refine ca (fun fE=>?_) fun o5=>?_
 ·have hkr:k<o.cY.length:=by omega
  obtain⟨o1,ho1,Te,hr1,hw1,Ub,hmv,Wm⟩:=hk.ok k hkr
  have C2:k<o1.fA.length:=by unfold dg.fA;simp;omega
  have us:o1.fA[k]?=some (o1.fA.getD k 0):=by rw [bB,br C2];rfl
  refine⟨_,rfl,Z5 ng ho1 Te hl1 us ⟨_,_,rfl,_,rfl,?_⟩⟩
  refine Fc ng hmv fun h2 A5 G2 wK hh2 x2=>⟨_,rfl,_,rfl,?_⟩
  have HX:=SZ _ (o1.fA.getD k 0) ho1 hh2 hl1
  have Ww:=SV _ (o1.fA.getD k 0) ho1
  refine Z2 wK Ww Te HX C2 Wm fun h3 EI G3 Dx hh3 x3=>⟨_,rfl,o.cY.length-(k+1),by omega,k+1,EI,G3,by omega,rfl,rfl,rfl,rfl,rfl,rfl,?_,?_,(ZO.trans hh2).trans hh3,(x1.trans x2).trans x3,?_⟩
  ·rw [d9 (by omega) (by omega)];rfl
  ·rw [Ab m t k ho1];exact Dx
  ·rw [Ab m t k ho1];exact Wa _ _ _ hh3 HX
 ·obtain rfl:k=o.cY.length:=by omega
  have e1:wrap .i64 ((1:Int)+(o.cY.length:Int))=1+(o.cY.length:Int):=d9 (by omega) (by omega)
  have e2:wrap .i64 (1+(o.cY.length:Int)+(o.cN.length:Int))=(o.size:Int):=by rw [d9 (by omega) (by omega),dg.AW];omega
  rw [e1,e2]
  exact hR h1 tT G1 ng ZO x1
end
structure nW where
 kind:Nat
 cY:LN
 cN:LN
 Au:Bool
 pl:Nat
def nW.no:nW:=⟨0,[],[],false,0⟩
def nW.size(o:nW):Nat:=1+o.cY.length+o.cN.length
structure RS where
 cM:Nat
 dJ:Nat
 cZ:Nat
 dI:Nat
 gU:Nat
 gK:Nat
 eB:List nW
 dG:LN
 cK:LN
 bC:List (Option Nat)
 PI:Int
 EJ:Int
 HL:Nat
namespace RS
def dS(s:RS)(id:Nat):nW:=s.eB.getD id nW.no
def size(s:RS)(id:Nat):Nat:=(s.dS id).size
def fk(s:RS)(id:Nat):Nat:=if id=0 then 0 else if(s.dS id).Au=true then qO+(s.dS id).pl else(s.dS id).pl
def ident(s:RS)(r:Nat):Nat:=if qO≤r then s.cK.getD (r-qO) 0 else if r=0 then 0 else(s.dG.find? fun i=>(s.dS i).pl==r).getD 0
def gq(s:RS):LN→Nat→Nat→Nat
 | [],_,_=>0
 |x::r,p,id=>if x=id then p else gq s r (p+s.size x) id
def fG(s:RS)(l:LN):Nat:=(l.map s.size).sum
def da(s:RS)(id:Nat):Prop:=id∈s.dG∨(id≠0∧id∈s.cK)
instance (s:RS) (id:Nat):Decidable (s.da id):=inferInstanceAs (Decidable (_∨_))
structure Inv (s:RS):Prop where
 l1:128≤s.cM
 l2:s.cM≤1048576
 h1:64≤s.dJ
 h2:2*s.dJ+s.dI≤s.cM
 u1:s.cZ=1+s.fG s.dG
 u2:s.cZ≤s.dJ
 lg:s.dI=(s.cK.map fun id=>if id=0 then 0 else s.size id+1).sum
 Sp:s.cK.length≤1048576
 rl:s.bC.length≤100000000
 VP:s.dG.Nodup
 sm:∀id∈s.dG,0<id∧id<s.eB.length∧(s.dS id).Au=false∧s.size id≤64∧(s.dS id).pl=s.gq s.dG 1 id
 sl:∀i id,s.cK[i]?=some id→id≠0→id<s.eB.length∧(s.dS id).Au=true∧64<s.size id∧(s.dS id).pl=i
 rf:∀id,s.da id→∀r∈(s.dS id).cY,r=0∨s.da r
 rt:∀id,some id∈s.bC→id=0∨s.da id
 NK:∀id,s.da id→1≤(s.dS id).kind∧(s.dS id).kind≤255∧(s.dS id).cY.length≤1048576∧(s.dS id).cN.length≤1048576∧∀x∈(s.dS id).cN,x<18446744073709551616
 ob:1≤s.eB.length
 kp:s.gK≤1048576
 sn:s.gU≤2097152
structure Gc where
 cq:LN
 eI:LN
 a:Nat
 b:Nat
def gz(s:RS)(g:Gc)(id:Nat):Gc :=
 if id=0∨id∈g.cq∨id∈g.eI then g
 else if(s.dS id).Au=true then {g with eI:=g.eI++[id]}else {g with cq:=g.cq++[id]}
def eF(s:RS)(g:Gc)(dN:LN):Gc:=dN.foldl s.gz g
def kC(s:RS)(g:Gc):Gc :=
 match g.cq[g.a]? with
 |some id=>{s.eF g (s.dS id).cY with a:=g.a+1}
 |none=>match g.eI[g.b]? with
  |some id=>{s.eF g (s.dS id).cY with b:=g.b+1}
  |none=>g
def Cf(s:RS):Gc:=s.eF ⟨[],[],0,0⟩ (s.bC.filterMap id)
def jA(s:RS):Nat→Gc
 | 0=>s.Cf
 |n+1=>s.kC (s.jA n)
def eC(s:RS):Gc:=s.jA s.eB.length
def ci(s:RS):RS :=
 let g:=s.eC
 let dI:=(s.cK.map fun id=>if id∈g.eI then s.size id+1 else 0).sum
 {s with
  cZ:=1+s.fG g.cq
  eB:=s.eB.mapIdx fun id o=>if id∈g.cq then {o with pl:=s.gq g.cq 1 id}else if id∈g.eI then o else if id=0 then o else nW.no
  dG:=g.cq
  cK:=s.cK.map fun id=>if id∈g.eI then id else 0
  dI:=dI
  gU:=0
  gK:=dI
  PI:=wrap .i64 (s.PI+1)
  HL:=s.fG g.cq}
structure hU (s:RS) (g:Gc):Prop where
 nd:(g.cq++g.eI).Nodup
 cp:∀id∈g.cq,id∈s.dG
 ln:∀id∈g.eI,id≠0∧id∈s.cK
 a:g.a≤g.cq.length
 b:g.b≤g.eI.length
theorem Vm(s:RS)(g:Gc)(id:Nat):(s.gz g id).a=g.a∧(s.gz g id).b=g.b:=by
 unfold gz
 split
 ·exact⟨rfl,rfl⟩
 ·split<;>exact⟨rfl,rfl⟩
theorem uS(s:RS)(g:Gc)(id:Nat):g.cq <+: (s.gz g id).cq∧g.eI <+: (s.gz g id).eI:=by
 unfold gz
 split
 ·exact⟨ie _,ie _⟩
 ·split
  ·exact⟨ie _,List.prefix_append _ _⟩
  ·exact⟨List.prefix_append _ _,ie _⟩
theorem ls(s:RS):∀(dN:LN) (g:Gc),(s.eF g dN).a=g.a∧(s.eF g dN).b=g.b
 | [],_=>⟨rfl,rfl⟩
 |id::dN,g=>by
  have h1:=ls s dN (s.gz g id)
  have h2:=Vm s g id
  exact⟨h1.1.trans h2.1,h1.2.trans h2.2⟩
theorem jx(s:RS):∀(dN:LN) (g:Gc),g.cq <+: (s.eF g dN).cq∧g.eI <+: (s.eF g dN).eI
 | [],_=>⟨ie _,ie _⟩
 |id::dN,g=>by
  have h1:=jx s dN (s.gz g id)
  have h2:=uS s g id
  exact⟨h2.1.trans h1.1,h2.2.trans h1.2⟩
theorem Inv.At {s:RS}(i:s.Inv){id:Nat}(h:s.da id):((s.dS id).Au=true∧id∈s.cK∧id≠0)∨((s.dS id).Au=false∧id∈s.dG):=by
 rcases h with h|⟨h0,h⟩
 ·exact .inr ⟨(i.sm id h).2.2.1,h⟩
 ·obtain⟨k,hk⟩:=bT.1 h
  exact .inl ⟨(i.sl k id hk h0).2.1,h,h0⟩
theorem hU.gz {s:RS}(i:s.Inv){g:Gc}(h:hU s g){id:Nat}(iA:id=0∨s.da id):hU s (s.gz g id):=by
 unfold RS.gz
 split
 ·exact h
 ·rename_i hn
  simp only [not_or]at hn
  obtain⟨n0,n1,n2⟩:=hn
  have hh:=iA.resolve_left n0
  split
  ·rename_i hb
   rcases i.At hh with⟨_,hs,_⟩|⟨fV,_⟩
   ·refine⟨?_,h.cp,?_,h.a,?_⟩
    ·show (g.cq++(g.eI++[id])).Nodup
     rw [←ce,cu]
     refine⟨h.nd,by simp,?_⟩
     intro x hx y hy
     rw [bM.1 hy]
     rcases bI.1 hx with hx|hx
     ·intro e;subst e;exact n1 hx
     ·intro e;subst e;exact n2 hx
    ·intro x hx
     rcases bI.1 hx with hx|hx
     ·exact h.ln x hx
     ·rw [bM.1 hx];exact⟨n0,hs⟩
    ·have:=h.b;simp;omega
   ·rw [hb]at fV;cases fV
  ·rename_i hb
   rcases i.At hh with⟨fV,_⟩|⟨_,hs⟩
   ·exact absurd fV hb
   ·refine⟨?_,?_,h.ln,?_,h.b⟩
    ·show ((g.cq++[id])++g.eI).Nodup
     have hp:((g.cq++[id])++g.eI).Perm ((g.cq++g.eI)++[id]):=by
      rw [ce,ce]
      exact mQ _ ju
     rw [hp.nodup_iff,cu]
     refine⟨h.nd,by simp,?_⟩
     intro x hx y hy
     rw [bM.1 hy]
     rcases bI.1 hx with hx|hx
     ·intro e;subst e;exact n1 hx
     ·intro e;subst e;exact n2 hx
    ·intro x hx
     rcases bI.1 hx with hx|hx
     ·exact h.cp x hx
     ·rw [bM.1 hx];exact hs
    ·have:=h.a;simp;omega
theorem hU.eF {s:RS}(i:s.Inv):∀ {dN:LN} {g:Gc},hU s g→(∀id∈dN,id=0∨s.da id)→hU s (s.eF g dN)
 | [],_,h,_=>h
 |id::dN,g,h,am0=>hU.eF (dN:=dN) i (h.gz i (am0 id (bQ ..))) fun x hx=>am0 x (bJ _ hx)
theorem hU.da {s:RS}{g:Gc}(h:hU s g){id:Nat}(iA:id∈g.cq∨id∈g.eI):s.da id:=by
 rcases iA with iA|iA
 ·exact .inl (h.cp id iA)
 ·exact .inr (h.ln id iA)
theorem hU.Us {s:RS}{g:Gc}(h:hU s g){n:Nat}(hn:n≤g.cq.length):hU s {g with a:=n}:=⟨h.nd,h.cp,h.ln,hn,h.b⟩
theorem hU.acZ {s:RS}{g:Gc}(h:hU s g){n:Nat}(hn:n≤g.eI.length):hU s {g with b:=n}:=⟨h.nd,h.cp,h.ln,h.a,hn⟩
theorem hU.step {s:RS}(i:s.Inv){g:Gc}(h:hU s g):hU s (s.kC g):=by
 unfold kC
 split
 ·rename_i id iA
  have hr:=h.eF i (dN:=(s.dS id).cY) fun r hr=>i.rf id (h.da (.inl (bx iA))) r hr
  refine hr.Us ?_
  have h1:=(bp.1 iA).1
  have h2:=(s.jx (s.dS id).cY g).1.length_le
  omega
 ·split
  ·rename_i id iA
   have hr:=h.eF i (dN:=(s.dS id).cY) fun r hr=>i.rf id (h.da (.inr (bx iA))) r hr
   refine hr.acZ ?_
   have h1:=(bp.1 iA).1
   have h2:=(s.jx (s.dS id).cY g).2.length_le
   omega
  ·exact h
theorem hU.zero {s:RS}(i:s.Inv):hU s s.Cf:=by
 refine hU.eF i ⟨by simp,nofun,nofun,bH _,bH _⟩ fun id iA=>?_
 obtain⟨o,ho,e⟩:=ft.1 iA
 have e:o=some id:=e
 subst e
 exact i.rt id ho
theorem hU.at {s:RS}(i:s.Inv):∀n,hU s (s.jA n)
 | 0=>hU.zero i
 |n+1=>(hU.at i n).step i
end RS
end Go.Ev
