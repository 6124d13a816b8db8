/- Ranges over functions, for the evaluator: ro. No condition. -/
import Derived.RangeFuncRecord
import Derived.OrdersIn
import Derived.Test.YtjigacanjlppiaaGreatDoorP10
set_option linter.all false
set_option maxRecDepth 1000000
open Go.IntKind (wrap)
namespace Go.Ev
def FR(ro:Option Nat):Fence:={Fence.wide with round:=ro}
section
variable {P:Program} {ops:Array Oper} {Q:Exit→Act→World→Prop} {ro:Option Nat} {n:Nat}
theorem PN {f:FuncId}{args:Array Value}{w:World}{R:Ending→World→Prop}(h:Calls P f args w R):CallsIn (FR ro) n P f args w R :=
 ⟨trivial,fun cs _=>let ⟨e,w',fr,r,s,x⟩:=h cs;⟨e,w',fr,r,comesIn_wide.2 s,x⟩⟩
theorem Up {o:Oper}{a:Act}{w:World}{K:Act→World→Prop}(hd:∀c,o.op≠.defer c)(h:o.wp P a w K Q):o.wpIn (FR ro) n P a w K Q:=by
 refine⟨fun _ _=>trivial,?_⟩
 rw [Oper.semAt_eq _ _ _ hd]
 unfold Oper.wp at h
 generalize (execOp a.eval o).run P w=r at h ⊢
 cases r with
 |ok x w' =>
  cases x<;>simp only [Oper.upon,Oper.uponIn]at h ⊢
  case value=>exact h
  case skip=>exact h
  case defer=>exact h
  case enter=>exact⟨nofun,PN h⟩
  case row=>exact⟨nofun,fun c cs _=>let ⟨v,w',r,s⟩:=h c cs;⟨v,w',r,stepsIn_wide.2 s⟩⟩
 |halt x w'=>cases x<;>simp only [Oper.upon,Oper.uponIn]at h ⊢<;>exact h
theorem KY(h:uY ops=true){i:Nat}{o:Oper}(ho:ops[i]?=some o):∀c,o.op≠.defer c:=fun c hc=>by
 have:=mg.1 h o (by
  rw [←Array.getElem?_toList]at ho
  exact bx ho)
 rw [hc]at this
 cases this
theorem Hi(hd:uY ops=true)(hQ:¬LetsOut Q){i:Nat}{a:Act}{w:World}{K:Act→World→Prop}(h:wpOp P ops Q i K a w):wpOpIn (FR ro) n P ops Q i K a w:=by
 unfold wpOp at h
 unfold wpOpIn
 cases ho:ops[i]? with
 |none=>simpa only [ho]using h
 |some o =>
  simp only [ho]at h ⊢
  split
  ·rename_i hw
   rw [if_pos hw]at h
   exact Up (KY hd ho) (h.resolve_right fun z=>hQ z.2)
  ·rename_i hw
   rw [if_neg hw]at h
   exact⟨fun _ _=>trivial,h⟩
theorem D0(hd:uY ops=true)(hQ:¬LetsOut Q):∀(l:LN) (a:Act) (w:World),wpOps P ops Q l a w→wpOpsIn (FR ro) n P ops Q l a w
 | [],_,_,h=>h
 |i::l,a,w,h=>by
  rw [wpOps_cons]at h
  rw [wpOpsIn_cons]
  exact wpOpIn_mono (fun a w=>D0 hd hQ l a w) (Hi hd hQ h)
theorem D1 {md:Region.Mode}(hd:uY ops=true)(hQ:¬LetsOut Q):∀(kW:Nat) (listed:Array Bool) (a:Act) (w:World),wpAny P md ops Q kW listed a w→wpAnyIn (FR ro) n P md ops Q kW listed a w
 | 0,_,_,_,h=>h
 |kW+1,_,a,w,h=>⟨h.1,fun i hi=>wpOpIn_mono (fun a w=>D1 hd hQ kW _ a w) (Hi hd hQ (h.2 i hi))⟩
theorem CB {F:Fence}{c:Code}{a:Act}{w:World}(I:Nat→Act→World→Prop)(m:Nat)(h0:I m a w)
  (round:∀m a w,I m a w→c.wpIn F n P (Exit.then (fun a' w'=>∃m',m'<m∧I m' a' w') Q) a w):(Code.loop c).wpIn F n P Q a w:=by
 intro b k cs hro hb hr
 have key:∀m a w,I m a w →
   ∃e a' w',Q e a' w'∧ArrivesIn (Machine.fenced P F) P (lone (b.atR a (.code c::.inLoop c::k)) cs w) b k cs e a' w':=by
  intro m
  induction m using Nat.strongRecOn with
  |_ m ih =>
   intro a w hI
   obtain⟨e,Cx,BJ,hq,xS⟩:=round m a w hI b (.inLoop c::k) cs hro hb hr
   cases e with
   |normal =>
    obtain⟨m',fE,WL⟩:=hq
    obtain⟨aiN,ajc,afV,Wt,Jk⟩:=ih m' fE Cx BJ WL
    exact⟨aiN,ajc,afV,Wt,.of_steps (StepsIn.trans xS (.one (fenced_calm hb hr rfl) stepR_inLoop)) Jk⟩
   |exit id=>exact⟨_,Cx,BJ,hq,.pass (x:=.inLoop c) rfl (fun _ _=>.inl (by simp)) xS⟩
   |goto l=>exact⟨_,Cx,BJ,hq,.pass (x:=.inLoop c) rfl (fun _ _=>.inl (by simp)) xS⟩
   |ret=>exact⟨_,Cx,BJ,hq,.pass (x:=.inLoop c) rfl (fun _ _=>.inl (by simp)) xS⟩
   |panic ch=>exact⟨_,Cx,BJ,hq,.pass (x:=.inLoop c) rfl (fun _ _=>.inl (by simp)) xS⟩
   |outgrown=>exact⟨_,Cx,BJ,hq,.pass (x:=.inLoop c) rfl (fun _ _=>.inl (by simp)) xS⟩
 obtain⟨e,a',w',hq,xS⟩:=key m a w h0
 exact⟨e,a',w',hq,.of_steps (.one (fenced_calm hb hr rfl) stepR_loop) xS⟩
end
section
variable {P:Program} {ops:Array Oper} {F:Fence} {n:Nat} {Q Q':Exit→Act→World→Prop}
theorem Oper.Nx(hq:∀e a w,Q e a w→Q' e a w)(hQ:¬LetsOut Q){o:Oper}{a:Act}{w:World}{K K':Act→World→Prop}(h:∀a w,K a w→K' a w)(hh:o.wpIn F n P a w K Q):o.wpIn F n P a w K' Q':=by
 unfold Oper.wpIn at *
 refine⟨hh.1,?_⟩
 have hh:=hh.2
 generalize (o.semAt F.round a.eval).run P w=r at *
 cases r with
 |ok x w' =>
  cases x<;>simp only [Oper.uponIn]at hh ⊢ <;>
   first
    |exact h _ _ hh
    |exact⟨hh.1,CallsIn.mono hh.2 (fun e w'' he=>by cases e<;>first|exact h _ _ he|exact hq _ _ _ he|exact(hQ he).elim)⟩
    |exact⟨hh.1,RowsIn.mono hh.2 (fun _ _ he=>h _ _ he)⟩
    |exact⟨hh.1,RoundIn.mono hh.2 (fun e w'' he=>by cases e<;>first|exact h _ _ he|exact hq _ _ _ he|exact(hQ he).elim)⟩
 |halt x w'=>cases x<;>simp only [Oper.uponIn]at hh ⊢<;>first|exact hq _ _ _ hh|exact hh
theorem qG(hq:∀e a w,Q e a w→Q' e a w)(hQ:¬LetsOut Q):∀(l:LN) (a:Act) (w:World),wpOpsIn F n P ops Q l a w→wpOpsIn F n P ops Q' l a w
 | [],_,_,h=>hq _ _ _ h
 |i::l,a,w,h=>by
  rw [wpOpsIn_cons]at h ⊢
  unfold wpOpIn at h ⊢
  split
  ·rename_i ho
   simp only [ho]at h
   exact qG hq hQ l _ _ h
  ·rename_i o ho
   simp only [ho]at h
   split
   ·rename_i hw
    rw [if_pos hw]at h
    exact Oper.Nx hq hQ (fun a w=>qG hq hQ l a w) h
   ·rename_i hw
    rw [if_neg hw]at h
    exact⟨h.1,qG hq hQ l _ _ h.2⟩
end
def mV(P:Program)(l:Nat)(args:LV)(h:Hp)(R:RP):Prop :=
 ∀w:World,w.heap=h→∃fn tmps assign body,(Instr.yield l args.toArray).run P w=.ok (.round l fn tmps assign body) w ∧
  RoundIn Fence.wide 0 P l fn tmps assign body w fun e w'=>∃v,e=.returned v∧gj w w'∧R v w'.heap
def ajq(P:Program)(v:Value)(args:LV)(h:Hp)(R:RP):Prop :=
 Dyn P v args h R∨∃l,v=.func (.yield l) #[] #[]∧mV P l args h R
def afS(v:Value)(b:Bool):Prop:=(v=.nilFunc∧b=true)∨∃f a c,v=.func f a c∧b=false
def Q1:Operand→Bool
 | .const .nilFunc=>true
 |_=>false
def Rh(P:Program)(t:TypeId)(v:Value)(h:Hp)(K:RP):Prop :=
 match P.underlying t with
 |some (.func _ _ _)=>∃b:Bool,afS v b∧K (.bool b) h
 |_=>False
def YO(P:Program)(T:tD)(o:Oper)(env:LV)(h:Hp)(K:RP):Prop :=
 match o.op with
 | .binOp .eql t x y _=>if Q1 y=true then Rh P t (dz env x) h K else G5 P T o env h K
 | .call c=>match c.callee with
  | .value f=>if Wh f=true then ajq P (dz env f) (c.args.toList.map (dz env)) h (fun r h'=>zt (T.rt o.type) fun u=>r=u∧K u h')else G5 P T o env h K
  |_=>G5 P T o env h K
 |_=>G5 P T o env h K
def Cn(P:Program)(T:tD)(ops:Array Oper):List Oper→LV→Hp→(LV→Hp→Prop)→Prop
 | [],env,h,Q=>Q env h
 |o::rest,env,h,Q=>evG ops o env (fun hD=>YO P T o hD h fun v h'=>Cn P T ops rest (A8 hD o.dst v) h' Q)
   (fun hD=>Cn P T ops rest (A8 hD o.dst undef) h Q)
def uw(P:Program)(T:tD)(lv:Nat→LN):Code→Kc→LV→Hp→Prop
 | .skip,Q,env,h=>Q .normal env h
 | .ret,Q,env,h=>Q .ret env h
 | .exit id,Q,env,h=>Q (.exit id) env h
 | .seq a b,Q,env,h=>uw P T lv a (aan (uw P T lv b Q) Q) env h
 | .cond c a b,Q,env,h=>match dz env c with
  | .bool t=>bX t (uw P T lv a Q env h) (uw P T lv b Q env h)
  |_=>False
 | .block id c,Q,env,h=>uw P T lv c (As id Q) env h
 | .loop c,Q,env,h=>dO (uw P T lv c) Q (vR (lv (sZ c)) env) env.length h
 | .region id ops tI,Q,env,h=>if tI=true then kJ P T lv (.region id ops tI) Q env h else Cn P T ops ops.toList env h (Q .normal)
 |_,_,_,_=>False
def po:Code→Bool
 | .seq a b=>po a&&po b
 | .cond _ a b=>po a&&po b
 | .block _ c=>po c
 | .loop c=>po c
 | .region _ ops _=>uY ops
 |_=>true
section
variable {P:Program} {T:tD} {D:List Deferred} {w0:World} {ro:Option Nat} {n:Nat}
theorem E3 {Q:Kc}:¬LetsOut (I1 D w0 Q):=fun⟨_,_,_,_,_,h⟩=>h
theorem xY {lv:Nat→LN}(hm:P.follows .mixedOrders=true)(hT:mH P T):∀(c:Code),kR c=true→po c=true→∀(Q:Kc) (env:LV) (w:World),gj w0 w→kJ P T lv c Q env w.heap →
  c.wpIn (FR ro) n P (I1 D w0 Q) (j9 env D) w:=by
 intro c
 induction c with
 |skip=>exact fun _ _ Q env w hs h=>wpIn_skip ⟨hs,env,rfl,h⟩
 |ret=>exact fun _ _ Q env w hs h=>wpIn_ret ⟨hs,env,rfl,h⟩
 |exit id=>exact fun _ _ Q env w hs h=>wpIn_exit ⟨hs,env,rfl,h⟩
 |seq a b I6 I5 =>
  intro hn hd Q env w hs h
  simp only [kR,po,eD]at hn hd
  refine wpIn_seq (wpIn_mono (I6 hn.1 hd.1 _ env w hs h) fun e a' w' hl=>?_)
  obtain⟨nq,hD,rfl,hl⟩:=hl
  cases e<;>first|exact hl.elim|exact⟨nq,hD,rfl,hl⟩|exact I5 hn.2 hd.2 Q hD w' nq hl
 |cond c a b I6 I5 =>
  intro hn hd Q env w hs h
  simp only [kR,po,eD]at hn hd
  unfold kJ at h
  split at h
  ·rename_i t hc
   have tG:(j9 env D).eval c=.bool t:=by rw [mK];exact hc
   rcases h.split with⟨rfl,hx⟩|⟨rfl,hx⟩
   ·exact wpIn_cond_true tG (I6 hn.1 hd.1 Q env w hs hx)
   ·exact wpIn_cond_false tG (I5 hn.2 hd.2 Q env w hs hx)
  ·exact h.elim
 |block id c ih =>
  intro hn hd Q env w hs h
  refine wpIn_block (wpIn_mono (ih hn hd _ env w hs h) fun e a' w' hl=>?_)
  obtain⟨nq,hD,rfl,hl⟩:=hl
  cases e with
  |exit Nn =>
   show if Nn=id then _ else _
   simp only [As]at hl
   split at hl
   ·rename_i iA;rw [if_pos iA];exact⟨nq,hD,rfl,hl⟩
   ·rename_i iA;rw [if_neg iA];exact⟨nq,hD,rfl,hl⟩
  |_=>first|exact hl.elim|exact⟨nq,hD,rfl,hl⟩
 |loop c ih =>
  intro hn hd Q env w hs h
  obtain⟨I,m,hg,round⟩:=h
  have h0:I m env w.heap:=by
   have:=hg fun k=>env.getD k undef
   have e:lU env.length (vR (lv (sZ c)) env) (fun k=>env.getD k undef)=env:=vT _ _
   rwa [e]at this
  refine CB (fun m a w=>gj w0 w∧∃env,a=j9 env D∧I m env w.heap) m ⟨hs,env,rfl,h0⟩ fun m a w hI=>?_
  obtain⟨nq,hD,rfl,hI⟩:=hI
  refine wpIn_mono (ih hn hd _ hD w nq (round m hD w.heap hI)) fun e a' w' hl=>?_
  obtain⟨LC,C6,rfl,hl⟩:=hl
  cases e<;>first|exact hl.elim|exact⟨LC,C6,rfl,hl⟩ | (obtain⟨m',fE,hm'⟩:=hl;exact⟨m',fE,LC,C6,rfl,hm'⟩)
 |region id ops tI =>
  intro hn hd Q env w hs h
  unfold kJ at h
  cases tI with
  |false =>
   simp only [dy,if_false]at h
   refine wpIn_region (D0 hd E3 _ _ _ ?_)
   have:=C4 (P:=P) (D:=D) (w0:=w0) hT (ops:=ops) ops.toList 0 env w (fun i=>by simp) hs h
   rw [fx]at this
   rwa [lC]
  |true =>
   simp only [if_true]at h
   have Jc:Region.noSelect ops=true:=by simpa [kR]using hn
   refine wpIn_region_any hm (D1 hd E3 _ _ _ _ ?_)
   exact zK ops.size [] _ _ {w with drawn:=w.drawn+1} ⟨hs.1,hs.2.1,hs.2.2.1,Nat.le_succ_of_le hs.2.2.2⟩ (H8 hT Jc ops.size [] _ env w.heap (fun p hp=>by cases hp) h)
 |_=>exact fun _ _ Q env w hs h=>h.elim
def Hf(l:Nat)(R:RP)(j:Option Code)(h:Hp):Prop :=
 ∃r:Loop,h[l]?=some (.loop r)∧R (.bool j.isNone) (h.setIfInBounds l (.loop {r with state:=if j.isNone then .ready else .done,pending:=j}))
def agA(l:Nat)(R:RP):Kc
 | .normal,_,h=>Hf l R none h
 | .ret,_,h=>Hf l R (some .ret) h
 | .exit id,_,h=>Hf l R (some (.exit id)) h
 |_,_,_=>False
def agm(P:Program)(T:tD)(lv:Nat→LN)(l:Nat)(body:Code)(R:RP):Kc
 | .normal,env,h=>∃r:Loop,h[l]?=some (.loop r)∧r.state=.ready∧kJ P T lv body (agA l R) env (h.setIfInBounds l (.loop {r with state:=.busy}))
 |_,_,_=>False
def wE(P:Program)(T:tD)(lv:Nat→LN)(l:Nat)(assign body:Code)(env:LV)(h:Hp)(R:RP):Prop :=
 kJ P T lv assign (agm P T lv l body R) env h
theorem tS {w:World}{l:Nat}{o:Obj}:gj w (w.putObj l o):=⟨rfl,rfl,rfl,bH _⟩
theorem zJ {lv:Nat→LN}(hm:P.follows .mixedOrders=true)(hT:mH P T){l:Nat}{r:Loop}{args:LV}{h:Hp}{R:RP}{env:LV}(hl:h[l]?=some (.loop r)) (hs:args.toArray.size=r.params.size)
  (he:(r.params.zip args.toArray).foldl (fun tmps (t,a)=>tmps.setIfInBounds t a) r.tmps=env.toArray) (n1:kR r.assign=true) (n2:kR r.body=true) (d1:po r.assign=true) (d2:po r.body=true)
  (hr:wE P T lv l r.assign r.body env h R):mV P l args h R:=by
 intro w hw
 subst hw
 refine⟨r.fn,env.toArray,r.assign,r.body,?_,?_⟩
 ·rw [←he];exact run_yield hl hs
 refine roundIn_of_wpIn (F:=Fence.wide) trivial ?_
 have key:=xY (P:=P) (T:=T) (D:=[]) (w0:=w) (ro:=some l) (n:=0) hm hT r.assign n1 d1 _ env w (gj.refl _) hr
 refine wpIn_mono key fun e a' w' hx=>?_
 obtain⟨nq,hD,rfl,hx⟩:=hx
 cases e<;>first|exact hx.elim|skip
 obtain⟨r1,h1,ahA,hx⟩:=hx
 refine⟨w'.putObj l (.loop {r1 with state:=.busy}),run_beginRound h1 ahA,?_⟩
 have asx:=xY (P:=P) (T:=T) (D:=[]) (w0:=w) (ro:=some l) (n:=0) hm hT r.body n2 d2 _ hD (w'.putObj l (.loop {r1 with state:=.busy})) (nq.trans tS) hx
 refine wpIn_mono asx fun e a2 w2 hy=>?_
 obtain⟨hs2,aBg,rfl,hy⟩:=hy
 cases e<;>first|exact hy.elim|skip
 all_goals
  obtain⟨r2,h2,hy⟩:=hy
  exact⟨_,_,run_endRound _ h2,_,rfl,hs2.trans tS,hy⟩
theorem GF {o:Oper}{c:Call}{f:Operand}{env:LV}{l:Nat}(mC:o.op=.call c)(hf:c.callee=.value f)(hv:dz env f=.func (.yield l) #[] #[]) (w:World) :
  (execOp (dz env) o).run P w=(Instr.yield l (c.args.toList.map (dz env)).toArray).run P w:=by
 have ha:(#[]:Array Value)++c.args.map (dz env)=(c.args.toList.map (dz env)).toArray:=by
  apply gd
  simp
 simp only [execOp,mC,run_bind,resolve,hf,hv,Deferred.ofValue,cH,invoke,ha]
theorem To {t:TypeId}{x y:Operand}{v:Value}{b:Bool}{ps rs:Array TypeId}{vd:Bool}(ht:P.underlying t=some (.func ps rs vd)) (hb:afS v b) (w:World) :
  (do eqGuard .eql t x y v .nilFunc;binOp .eql t v .nilFunc:Sem Value).run P w=.ok (.bool b) w:=by
 have hs:(Op.equal t v .nilFunc).run P w=.ok b w:=by
  rcases hb with⟨rfl,rfl⟩|⟨f,a,c,rfl,rfl⟩
  ·unfold Op.equal
   rw [show Op.maxDepth=9999+1 from rfl,Op.equalIn.eq_def]
   simp only []
   rw [run_bind,run_underlying ht]
   rfl
  ·unfold Op.equal
   rw [show Op.maxDepth=9999+1 from rfl,Op.equalIn.eq_def]
   simp only []
   rw [run_bind,run_underlying ht]
   rfl
 have hg:(eqGuard .eql t x y v .nilFunc).run P w=.ok () w:=by
  rcases hb with⟨rfl,rfl⟩|⟨f,a,c,rfl,rfl⟩<;>rfl
 have e:binOp .eql t v .nilFunc=(do pure (.bool (←Op.equal t v .nilFunc)):Sem Value):=by
  rcases hb with⟨rfl,rfl⟩|⟨f,a,c,rfl,rfl⟩<;>rfl
 have vW:(binOp .eql t v .nilFunc).run P w=.ok (.bool b) w:=by
  rw [e,run_bind,hs]
  rfl
 rw [run_bind,hg]
 exact vW
theorem MQ(hT:mH P T){o:Oper}{env:LV}{w:World}{K:RP}(h:YO P T o env w.heap K):
  yu P o env w K∨∃l args,(∀w':World,(execOp (dz env) o).run P w'=(Instr.yield l (List.toArray args)).run P w')∧(∀c,o.op≠.defer c)∧mV P l args w.heap K:=by
 unfold YO at h
 split at h
 ·rename_i t x y u mC
  split at h
  ·rename_i hy
   have ey:y=.const .nilFunc:=by
    unfold Q1 at hy
    split at hy
    ·rfl
    ·cases hy
   subst ey
   unfold Rh at h
   split at h
   ·rename_i ps rs vd ht
    obtain⟨b,hb,hk⟩:=h
    refine .inl (.inl ⟨.bool b,w,.inl ?_,gj.refl _,hk⟩)
    have e1:=To (x:=x) (y:=.const .nilFunc) ht hb w
    simp only [execOp,mC,Next.value]
    show (do let v ←(do eqGuard .eql t x (.const .nilFunc) (dz env x) .nilFunc;binOp .eql t (dz env x) .nilFunc:Sem Value);pure (Next.value v):Sem Next).run P w=_
    rw [run_bind,e1]
    rfl
   ·exact h.elim
  ·exact .inl (nB hT h)
 ·rename_i c mC
  split at h
  ·rename_i f hf
   split at h
   ·rename_i ht
    rcases h with h|⟨l,hv,h⟩
    ·refine .inl (nB hT ?_)
     unfold G5
     simp only [mC,hf,if_pos ht]
     exact h
    ·refine .inr ⟨l,_,GF mC hf hv,(fun c' tG=>by rw [mC]at tG;cases tG),fun w' On=>?_⟩
     obtain⟨fn,tmps,assign,body,h1,h2⟩:=h w' On
     refine⟨fn,tmps,assign,body,h1,h2.mono fun e w2 ⟨v,he,hs,hr⟩=>?_⟩
     obtain⟨u,hu,hk⟩:=oB hr
     exact⟨v,he,hs,hu▸hk⟩
   ·exact .inl (nB hT h)
  ·exact .inl (nB hT h)
 ·exact .inl (nB hT h)
theorem Bq(hT:mH P T){ops:Array Oper}(hd:uY ops=true){Q:Kc}:∀(l:List Oper) (k:Nat) (env:LV) (w:World),(∀i,l[i]?=ops[k+i]?)→gj w0 w →
  Cn P T ops l env w.heap (Q .normal)→wpOpsIn Fence.wide n P ops (I1 D w0 Q) (List.range' k l.length) (j9 env D) w:=by
 intro l
 induction l with
 |nil=>intro k env w _ hs h;exact⟨hs,env,rfl,h⟩
 |cons o rest ih =>
  intro k env w hl hs h
  have ho:ops[k]?=some o:=by have:=hl 0;simpa using this.symm
  have Ff:∀i,rest[i]?=ops[k+1+i]?:=fun i=>by have:=hl (i+1);rw [show k+(i+1)=k+1+i by omega]at this;simpa using this
  rw [dF,me,wpOpsIn_cons]
  unfold wpOpIn
  simp only [ho]
  have e:(j9 env D).tmps=env.toArray:=rfl
  rw [e]
  unfold Cn at h
  rcases vq h with⟨hw,h⟩|⟨hw,h⟩
  ·rw [if_pos hw]
   rcases MQ hT h with h|⟨yl,args,Ca,Jf,hy⟩
   ·exact Up (ro:=none) (KY hd ho) (yu.wp hs h fun v w' nq hk=>ih (k+1) _ w' Ff nq hk)
   ·obtain⟨fn,tmps,assign,body,h1,h2⟩:=hy w rfl
    refine⟨fun _ _=>trivial,?_⟩
    rw [Oper.semAt_eq _ _ _ Jf,mK,Ca,h1,Oper.uponIn_round]
    refine⟨nofun,h2.1,fun c cs _=>?_⟩
    obtain⟨e,w',⟨v,he,nq,hk⟩,GV⟩:=h2.2 c cs (room_wide _)
    subst he
    refine⟨.returned v,w',?_,GV⟩
    show wpOpsIn Fence.wide n P ops (I1 D w0 Q) _ ((j9 env D).put o.dst v) w'
    rw [om]
    exact ih (k+1) _ w' Ff (hs.trans nq) hk
  ·rw [hw]
   simp only [dy,if_false]
   rw [om]
   exact⟨fun _ _=>trivial,ih (k+1) _ w Ff hs h⟩
theorem Pv {lv:Nat→LN}(hm:P.follows .mixedOrders=true)(hT:mH P T):∀(c:Code),kR c=true→po c=true→∀(Q:Kc) (env:LV) (w:World),gj w0 w→uw P T lv c Q env w.heap →
  c.wpIn Fence.wide n P (I1 D w0 Q) (j9 env D) w:=by
 intro c
 induction c with
 |skip=>exact fun _ _ Q env w hs h=>wpIn_skip ⟨hs,env,rfl,h⟩
 |ret=>exact fun _ _ Q env w hs h=>wpIn_ret ⟨hs,env,rfl,h⟩
 |exit id=>exact fun _ _ Q env w hs h=>wpIn_exit ⟨hs,env,rfl,h⟩
 |seq a b I6 I5 =>
  intro hn hd Q env w hs h
  simp only [kR,po,eD]at hn hd
  refine wpIn_seq (wpIn_mono (I6 hn.1 hd.1 _ env w hs h) fun e a' w' hl=>?_)
  obtain⟨nq,hD,rfl,hl⟩:=hl
  cases e<;>first|exact hl.elim|exact⟨nq,hD,rfl,hl⟩|exact I5 hn.2 hd.2 Q hD w' nq hl
 |cond c a b I6 I5 =>
  intro hn hd Q env w hs h
  simp only [kR,po,eD]at hn hd
  unfold uw at h
  split at h
  ·rename_i t hc
   have tG:(j9 env D).eval c=.bool t:=by rw [mK];exact hc
   rcases h.split with⟨rfl,hx⟩|⟨rfl,hx⟩
   ·exact wpIn_cond_true tG (I6 hn.1 hd.1 Q env w hs hx)
   ·exact wpIn_cond_false tG (I5 hn.2 hd.2 Q env w hs hx)
  ·exact h.elim
 |block id c ih =>
  intro hn hd Q env w hs h
  refine wpIn_block (wpIn_mono (ih hn hd _ env w hs h) fun e a' w' hl=>?_)
  obtain⟨nq,hD,rfl,hl⟩:=hl
  cases e with
  |exit Nn =>
   show if Nn=id then _ else _
   simp only [As]at hl
   split at hl
   ·rename_i iA;rw [if_pos iA];exact⟨nq,hD,rfl,hl⟩
   ·rename_i iA;rw [if_neg iA];exact⟨nq,hD,rfl,hl⟩
  |_=>first|exact hl.elim|exact⟨nq,hD,rfl,hl⟩
 |loop c ih =>
  intro hn hd Q env w hs h
  obtain⟨I,m,hg,round⟩:=h
  have h0:I m env w.heap:=by
   have:=hg fun k=>env.getD k undef
   have e:lU env.length (vR (lv (sZ c)) env) (fun k=>env.getD k undef)=env:=vT _ _
   rwa [e]at this
  refine CB (fun m a w=>gj w0 w∧∃env,a=j9 env D∧I m env w.heap) m ⟨hs,env,rfl,h0⟩ fun m a w hI=>?_
  obtain⟨nq,hD,rfl,hI⟩:=hI
  refine wpIn_mono (ih hn hd _ hD w nq (round m hD w.heap hI)) fun e a' w' hl=>?_
  obtain⟨LC,C6,rfl,hl⟩:=hl
  cases e<;>first|exact hl.elim|exact⟨LC,C6,rfl,hl⟩ | (obtain⟨m',fE,hm'⟩:=hl;exact⟨m',fE,LC,C6,rfl,hm'⟩)
 |region id ops tI =>
  intro hn hd Q env w hs h
  unfold uw at h
  cases tI with
  |false =>
   simp only [dy,if_false]at h
   refine wpIn_region ?_
   have:=Bq (P:=P) (D:=D) (w0:=w0) (n:=n) hT (ops:=ops) hd ops.toList 0 env w (fun i=>by simp) hs h
   rw [fx]at this
   rwa [lC]
  |true =>
   simp only [if_true]at h
   exact xY (ro:=none) hm hT (.region id ops true) hn hd Q env w hs h
 |_=>exact fun _ _ Q env w hs h=>h.elim
def aiQ(P:Program)(T:tD)(lv:Nat→LN)(fn:Func)(c:Code)(ik:List VK)(args:LV)(h:Hp)(R:RP):Prop :=
 uw P T lv c (eJ P fn ik R) (ue fn args) h
theorem zG {lv:Nat→LN}(hm:P.follows .mixedOrders=true)(hT:mH P T){f:FuncId}{fn:Func}{c:Code}{ik:List VK}{args:LV}{h:Hp}{R:RP}(hf:P.funcs[f]?=some fn)(hb:fn.body=some c)
  (hn:kR c=true) (hd:po c=true) (he:aiQ P T lv fn c ik args h R):bq P f args.toArray h R:=by
 intro w hw
 subst hw
 refine(callsIn_wide (n:=0)).1 (callsIn_of_wp hf hb trivial ?_)
 have key:=Pv (D:=[]) (w0:=w) (n:=0) hm hT c hn hd _ _ w (gj.refl _) he
 have e:({tmps:=args.toArray++Array.replicate (fn.ntmps-args.toArray.size) undef,defers:=[]}:Act)=j9 (ue fn args) []:=by
  unfold j9 ue
  congr 1
  apply gd
  simp
 rw [e]
 refine wpIn_mono key fun e a w' hl=>?_
 obtain⟨hs,env,rfl,hl⟩:=hl
 cases e<;>first|exact hl.elim|skip
 all_goals
  obtain⟨v,vs,hr,hk⟩:=nm _ _ _ _ hl
  exact⟨rfl,v,hr,v,rfl,hs,hk⟩
def Dk(fn:FuncId)(tmps:LV)(ps:Array Tmp)(assign body:Code)(b:Nat)(st:LoopState)(ph:Option Code):Loop :=
 {state:=st,pending:=ph,fn,tmps:=tmps.toArray,params:=ps,assign,body,defers:=b}
def yU(P:Program)(T:tD)(v:Value)(ps:Array Tmp)(assign body:Code)(l:List (Nat × Value)) (N:Nat) (h:Hp) (K:Option Code→Hp→Prop):Prop :=
 ∃g first cap,v=.func (.func g) first cap∧vE P g∧∀(fn:FuncId) (gl:Nat→Value),
  bq P g (first.toList++[Value.func (.yield (h.size+1)) #[] #[]]++cap.toList).toArray ((h.push (.deferred (some []))).push (.loop (Dk fn (lU N l gl) ps assign body h.size .ready none))) fun _ h' =>
   ∃st ph,h'[h.size+1]?=some (.loop (Dk fn (lU N l gl) ps assign body h.size st ph))∧st≠.busy∧K ph (h'.setIfInBounds (h.size+1) (.loop (Dk fn (lU N l gl) ps assign body h.size .exhausted ph)))
def CA(kn kr:Hp→Prop)(ke:Nat→Hp→Prop):Option Code→Hp→Prop
 |none,h=>kn h
 |some .ret,h=>kr h
 |some (.exit id),h=>ke id h
 |_,_=>False
def aji(Q:P1)(D:List Deferred)(env:LV):Option Code→Hp→Prop:=CA (Q .normal D env) (Q .ret D env) fun id=>Q (.exit id) D env
def SE:Code→Code
 | .rangeFunc _ _ a _=>a
 |c=>c
def SD:Code→Code
 | .rangeFunc _ _ _ b=>b
 |c=>c
def lM(P:Program)(T:tD)(lv:Nat→LN):LN→Code→List (Kc→Kc)→Kc→Kc
 | [],_,_,Q=>Q
 | 0::π,.seq a b,lk,Q=>lM P T lv π a lk (aan (uw P T lv b Q) Q)
 |_::π,.seq _ b,lk,Q=>lM P T lv π b lk Q
 | 0::π,.cond _ a _,lk,Q=>lM P T lv π a lk Q
 |_::π,.cond _ _ b,lk,Q=>lM P T lv π b lk Q
 |_::π,.block id c,lk,Q=>lM P T lv π c lk (As id Q)
 |_::π,.loop c,k::lk,Q=>lM P T lv π c lk (k Q)
 |_,_,_,Q=>Q
def JO(P:Program)(T:tD)(lv:Nat→LN):Code→P1→List Deferred→LV→Hp→Prop
 | .seq a b,Q,D,env,h=>JO P T lv a (ady (JO P T lv b Q) Q) D env h
 | .cond c a b,Q,D,env,h=>match dz env c with
  | .bool t=>bX t (JO P T lv a Q D env h) (JO P T lv b Q D env h)
  |_=>False
 | .block id c,Q,D,env,h=>JO P T lv c (DQ id Q) D env h
 | .region id ops tI,Q,D,env,h=>if tI=true then kJ P T lv (.region id ops tI) (xi Q D) env h else Cn P T ops ops.toList env h (xi Q D .normal)
 | .skip,Q,D,env,h=>Q .normal D env h
 | .ret,Q,D,env,h=>Q .ret D env h
 | .exit id,Q,D,env,h=>Q (.exit id) D env h
 | .loop c,Q,D,env,h=>kJ P T lv (.loop c) (xi Q D) env h
 | .rangeFunc g ps assign body,Q,D,env,h=>yU P T (dz env g) ps assign body (vR (lv (sZ assign)) env) env.length h (aji Q ({target:=.collected h.size,args:=#[]}::D) env)
 |_,_,_,_,_=>False
theorem Pw {lv:Nat→LN}(hm:P.follows .mixedOrders=true)(hT:mH P T):∀(c:Code),kR c=true→po c=true→∀(Q:P1) (D:List Deferred) (env:LV) (w:World),gj w0 w →
  JO P T lv c Q D env w.heap→c.wp P (QZ w0 Q) (j9 env D) w:=by
 intro c
 induction c with
 |skip=>exact fun _ _ Q D env w hs h=>wp_skip ⟨hs,D,env,rfl,h⟩
 |ret=>exact fun _ _ Q D env w hs h=>wp_ret ⟨hs,D,env,rfl,h⟩
 |exit id=>exact fun _ _ Q D env w hs h=>wp_exit ⟨hs,D,env,rfl,h⟩
 |seq a b I6 I5 =>
  intro hn hd Q D env w hs h
  simp only [kR,po,eD]at hn hd
  refine wp_seq (wp_mono (I6 hn.1 hd.1 _ D env w hs h) fun e a' w' hl=>?_)
  obtain⟨nq,D',hD,rfl,hl⟩:=hl
  cases e<;>first|exact hl.elim|exact⟨nq,D',hD,rfl,hl⟩|exact I5 hn.2 hd.2 Q D' hD w' nq hl
 |cond c a b I6 I5 =>
  intro hn hd Q D env w hs h
  simp only [kR,po,eD]at hn hd
  unfold JO at h
  split at h
  ·rename_i t hc
   have tG:(j9 env D).eval c=.bool t:=by rw [mK];exact hc
   rcases h.split with⟨rfl,hx⟩|⟨rfl,hx⟩
   ·exact wp_cond_true tG (I6 hn.1 hd.1 Q D env w hs hx)
   ·exact wp_cond_false tG (I5 hn.2 hd.2 Q D env w hs hx)
  ·exact h.elim
 |block id c ih =>
  intro hn hd Q D env w hs h
  refine wp_block (wp_mono (ih hn hd _ D env w hs h) fun e a' w' hl=>?_)
  obtain⟨nq,D',hD,rfl,hl⟩:=hl
  cases e with
  |exit Nn =>
   show if Nn=id then _ else _
   simp only [DQ]at hl
   split at hl
   ·rename_i iA;rw [if_pos iA];exact⟨nq,D',hD,rfl,hl⟩
   ·rename_i iA;rw [if_neg iA];exact⟨nq,D',hD,rfl,hl⟩
  |_=>first|exact hl.elim|exact⟨nq,D',hD,rfl,hl⟩
 |loop c ih =>
  intro hn hd Q D env w hs h
  exact wp_mono (sF (D:=D) hm hT (.loop c) hn (xi Q D) env w hs h) fun e a' w' hl=>sT hl
 |region id ops tI =>
  intro hn hd Q D env w hs h
  unfold JO at h
  cases tI with
  |false =>
   simp only [dy,if_false]at h
   refine(wpIn_wide (n:=0)).1 (wpIn_region ?_)
   have:=Bq (P:=P) (D:=D) (w0:=w0) (n:=0) (Q:=xi Q D) hT (ops:=ops) hd ops.toList 0 env w (fun i=>by simp) hs h
   rw [fx,←lC]at this
   exact qG (fun e a' w' hl=>sT hl) (fun⟨_,_,_,_,_,h⟩=>h) _ _ _ this
  |true =>
   simp only [if_true]at h
   exact wp_mono (sF (D:=D) hm hT (.region id ops true) hn (xi Q D) env w hs h) fun e a' w' hl=>sT hl
 |rangeFunc g ps assign body _ _ =>
  intro hn hd Q D env w hs h
  refine(wpIn_wide (n:=0)).1 (wpIn_rangeFunc (F:=Fence.wide) fun fn _=>?_)
  obtain⟨f,first,cap,hv,atP,rP⟩:=h
  have auK:lU env.length (vR (lv (sZ assign)) env) (fun k=>env.getD k undef)=env:=vT _ _
  have rP:=rP fn fun k=>env.getD k undef
  rw [auK]at rP
  let w1:World:=(w.alloc (.deferred (some []))).alloc (.loop (Dk fn env ps assign body w.heap.size .ready none))
  have Fi:(j9 env D).eval g=.func (.func f) first cap:=by rw [mK];exact hv
  refine⟨w.heap.size+1,[{target:=.collected w.heap.size,args:=#[]}],w1,{target:=.fn (.func f) cap,args:=first++#[Value.func (.yield (w.heap.size+1)) #[] #[]]},w1,f,(first.toList++[Value.func (.yield (w.heap.size+1)) #[] #[]]++cap.toList).toArray,w1,run_enterLoop_outer ..,?_,fun _ _=>trivial,?_,nofun,?_⟩
  ·simp only [resolve,Fi,Deferred.ofValue,cH,List.map_toArray,cU,kI]
   rfl
  ·have:=atP (first++#[Value.func (.yield (w.heap.size+1)) #[] #[]]++cap) w1
   simp only [invoke]
   rw [this]
   congr 2
   apply gd
   simp
  ·refine callsIn_wide.2 ((rP w1 rfl).mono fun e w3 ⟨v,he,hs3,st,ph,hl,hb,hk⟩=>?_)
   subst he
   have s3:gj w0 (w3.putObj (w.heap.size+1) (.loop (Dk fn env ps assign body w.heap.size .exhausted ph))):=(hs.trans ⟨rfl,rfl,rfl,bH _⟩:gj w0 w1).trans (hs3.trans tS)
   refine⟨ph,w3.putObj (w.heap.size+1) (.loop (Dk fn env ps assign body w.heap.size .exhausted ph)),run_endLoop hl hb,?_⟩
   cases ph with
   |none=>exact⟨s3,_,env,rfl,hk⟩
   |some j =>
    cases j<;>first|exact hk.elim|skip
    ·exact wpIn_exit ⟨s3,_,env,rfl,hk⟩
    ·exact wpIn_ret ⟨s3,_,env,rfl,hk⟩
 |_=>exact fun _ _ Q D env w hs h=>h.elim
def E5(P:Program)(fn:Func)(ik:List VK)(R:RP):List Deferred→LV→Hp→Prop
 | [],env,h=>qU P (results fn env.toArray) ik h fun v _=>R v h
 |d::ds,env,h=>match d.target with
  | .collected r=>h[r]?=some (.deferred (some []))∧E5 P fn ik R ds env (h.setIfInBounds r (.deferred none))
  |_=>False
theorem I2 {fn:Func}{ik:List VK}{R:RP}:∀(D:List Deferred) (env:LV) (w:World),gj w0 w→E5 P fn ik R D env w.heap →
  LeavesInM Fence.wide 0 P fn env.toArray (fun e w'=>∃v,e=.returned v∧gj w0 w'∧R v w'.heap) D .returning w:=by
 intro D
 induction D with
 |nil =>
  intro env w hs h
  obtain⟨v,vs,hr,hk⟩:=nm _ _ _ _ h
  exact⟨v,hr,v,rfl,hs,hk⟩
 |cons d ds ih =>
  intro env w hs h
  unfold E5 at h
  split at h
  ·rename_i r abc
   exact⟨nofun,.inl ⟨r,_,abc,run_takeDeferred h.1,ih env _ (hs.trans tS) h.2⟩⟩
  ·exact h.elim
def ai7(P:Program)(fn:Func)(ik:List VK)(R:RP):P1
 | .normal,D,env,h=>E5 P fn ik R D env h
 | .ret,D,env,h=>E5 P fn ik R D env h
 |_,_,_,_=>False
def acz(P:Program)(T:tD)(lv:Nat→LN)(fn:Func)(c:Code)(ik:List VK)(args:LV)(h:Hp)(R:RP):Prop :=
 JO P T lv c (ai7 P fn ik R) [] (ue fn args) h
theorem uz {lv:Nat→LN}(hm:P.follows .mixedOrders=true)(hT:mH P T){f:FuncId}{fn:Func}{c:Code}{ik:List VK}{args:LV}{h:Hp}{R:RP}(hf:P.funcs[f]?=some fn)(hb:fn.body=some c)
  (hn:kR c=true) (hd:po c=true) (he:acz P T lv fn c ik args h R):bq P f args.toArray h R:=by
 intro w hw
 subst hw
 refine(callsIn_wide (n:=0)).1 (callsIn_of_wp_marks hf hb trivial ?_)
 have key:=wpIn_wide (n:=0) |>.2 (Pw (w0:=w) hm hT c hn hd _ _ _ w (gj.refl _) he)
 have e:({tmps:=args.toArray++Array.replicate (fn.ntmps-args.toArray.size) undef,defers:=[]}:Act)=j9 (ue fn args) []:=by
  unfold j9 ue
  congr 1
  apply gd
  simp
 rw [e]
 refine wpIn_mono key fun e a w' hl=>?_
 obtain⟨hs,D,env,rfl,hl⟩:=hl
 cases e<;>first|exact hl.elim|skip
 all_goals exact I2 D env w' hs hl
end
section
end
open Go.Proofs
def acq(b:OA)(h:Hp)(R:RP):Prop:=bq PG 61 #[vp b,vi 3] h fun r c=>∃a:Int,r=vu a∧R ((vi (wrap .i64 a):Value)) c
theorem Jq {a0:OA}{h:Hp}{R:RP}(hF:acq a0 h R):bq PG 24 #[vp a0] h R:=iY (lv:=kw) Tryz.func24 hF
def V8(m:Nat):LN:=if m=3 then [3]else []
def aco(k:OA)(h:Hp)(R:RP):Prop:=gi (h.push (.cells #[.slice none 0 0] 37)) fun l=>bq PG 63 #[vp k,vu 0] l fun r f=>∃g:Value,r=g∧yU PG fN g #[7] (SE (sub [1,1,0,1,0] (bd Tryz.f26))) (SD (sub [1,1,0,1,0] (bd Tryz.f26))) [(3,vp (some (nb h)))] 15 f (CA (fun e=>∃b:Sl,cell e (nb h)=some (.slice b.a b.n b.c)∧bq PG 64 #[.slice b.a b.n b.c,.func (.func 65) #[] #[]] e fun r i=>∃d:Sl,r=.slice d.a d.n d.c∧i[f.size]?=some (.deferred (some []))∧gi (i.setIfInBounds f.size (.deferred none)) fun m=>R (.slice d.a d.n d.c:Value) m) (fun e=>e[f.size]?=some (.deferred (some []))∧gi (e.setIfInBounds f.size (.deferred none)) fun o=>R (.slice none 0 0:Value) o) fun id e=>if id=0 then(∃b:Sl,cell e (nb h)=some (.slice b.a b.n b.c)∧bq PG 64 #[.slice b.a b.n b.c,.func (.func 65) #[] #[]] e fun r j=>∃d:Sl,r=.slice d.a d.n d.c∧j[f.size]?=some (.deferred (some []))∧gi (j.setIfInBounds f.size (.deferred none)) fun p=>R (.slice d.a d.n d.c:Value) p)else False)
def Xr(s3:Addr)(pF:Int)(lf:Sl)(l:Nat)(h:Hp)(R:RP):Prop :=
 gi (h.push (.cells #[vu 0,.slice none 0 0] 102)) fun h1=>St h1 (nb h) (vu pF) fun h2=>St h2 ((nb h).add 1) (.slice lf.a lf.n lf.c) fun h3=>∃r:Loop,h3[l]?=some (.loop r)∧r.state=.ready∧gi (h3.setIfInBounds l (.loop {r with state:=.busy})) fun h4=>∃t8:Sl,cell h4 s3=some (.slice t8.a t8.n t8.c)∧∃t10:Sl,cell h4 ((nb h).add 1)=some (.slice t10.a t10.n t10.c)∧gi (h4.push (.cells #[.slice t10.a t10.n t10.c] 39)) fun h5=>im 39 1 24 #[.slice none 0 0] t8.a t8.n t8.c (some (nb h4)) 1 h5 fun ra6 rn6 rc6 h6=>St h6 s3 (.slice ra6 rn6 rc6) fun h7=>Hf l R none h7
theorem Xq(s3:Addr)(pF:Int)(lf:Sl)(l:Nat)(g:Nat→Value)(h:Hp)(R:RP):wE PG fN V8 l (SE (sub [1,1,0,1,0] (bd Tryz.f26))) (SD (sub [1,1,0,1,0] (bd Tryz.f26))) (lU 15 [(3,vp (some s3)),(7,.agg #[vu pF,.slice lf.a lf.n lf.c])] g) h R=Xr s3 pF lf l h R:=by kernel_rfl
noncomputable def ud(s3:Addr)(g:Nat→Value)(fn:FuncId)(b:Nat)(st:LoopState)(ph:Option Code):Loop:=Dk fn (lU 15 [(3,vp (some s3))] g) #[7] (SE (sub [1,1,0,1,0] (bd Tryz.f26))) (SD (sub [1,1,0,1,0] (bd Tryz.f26))) b st ph
theorem Xp {s3:Addr}{pF:Int}{lf:Sl}{l:Nat}{g:Nat→Value}{fn:FuncId}{b:Nat}{ph:Option Code}{h:Hp}{R:RP}(hl:h[l]?=some (.loop (ud s3 g fn b .ready ph))) (hB:Xr s3 pF lf l h R):mV PG l [.agg #[vu pF,.slice lf.a lf.n lf.c]] h R :=
 zJ (lv:=V8) (r:=ud s3 g fn b .ready ph) (env:=lU 15 [(3,vp (some s3)),(7,.agg #[vu pF,.slice lf.a lf.n lf.c])] g) mixed mh hl rfl (by kernel_rfl) (by kernel_rfl) (by kernel_rfl) (by kernel_rfl) (by kernel_rfl) (by
  show wE PG fN V8 l (SE (sub [1,1,0,1,0] (bd Tryz.f26))) (SD (sub [1,1,0,1,0] (bd Tryz.f26))) _ h R
  rw [Xq];exact hB)
theorem acn(a0:OA)(h:Hp)(R:RP):acz PG fN V8 Tryz.f26 (bd Tryz.f26) [] [vp a0] h R=aco a0 h R:=by kernel_rfl
theorem RE {a0:OA}{h:Hp}{R:RP}(hF:aco a0 h R):bq PG 26 #[vp a0] h R :=
 uz (lv:=V8) (ik:=[]) (c:=(bd Tryz.f26)) (args:=[vp a0]) mixed mh Tryz.func26 (by kernel_rfl) (by kernel_rfl) (by kernel_rfl) (by rw [acn];exact hF)
def air(b:OA)(d:Sl)(h:Hp)(R:RP):Prop:=bE b fun o=>∃f:Int,cell h (o.add 1)=some (vi f)∧bX (f==(0:Int)) (R (vt #[vu 0,vu 0,vu 0,vi 61]:Value) h) (bq PG 61 #[vp b,vi 2] h fun r p=>∃g:Int,r=vu g∧bq PG 68 #[vu g,.slice d.a d.n d.c] p fun r q=>∃i:Int,r=vu i∧bq PG 67 #[vp b,vu i,.slice d.a d.n d.c] q fun r j=>∃s:Int,∃t:Int,∃e:Int,r=vt #[vu s,vi t,vu e]∧bX (e==(0:Int)) (R (vt #[vu 0,vu 0,vu 0,vi 63]:Value) j) (bq PG 69 #[vp b,vu e,vi 2] j fun r u=>∃k:Int,r=vu k∧bq PG 69 #[vp b,vu e,vi 4] u fun r v=>∃l:Int,r=vu l∧bq PG 69 #[vp b,vu e,vi 5] v fun r w=>∃m:Int,r=vu m∧R (vt #[vu k,vu l,vu m,vi 0]:Value) w))
theorem RB {a0:OA}{a1:Sl}{h:Hp}{R:RP}(hF:air a0 a1 h R):bq PG 28 #[vp a0,vl a1] h R:=iY (lv:=kw) Tryz.func28 hF
def V5(m:Nat):LN:=if m=5 then [5,6,7,8,9]else []
def acm(y:OA)(z A:Int)(h:Hp)(R:RP):Prop:=gi (h.push (.cells #[vi A] 3)) fun g=>gi (g.push (.cells #[vu 0] 27)) fun i=>gi (i.push (.cells #[.slice none 0 0] 37)) fun s=>∃l:Int,cell s (nb h)=some (vi l)∧St s (nb h) (vi (if l<(1:Int)then(1:Int)else l)) fun k=>gi (k.push (.cells #[.slice none 0 0] 37)) fun m=>gi (m.push (.cells #[vu 0] 27)) fun B=>St B (nb m) (vu 0) fun C=>bq PG 63 #[vp y,vu z] C fun r j=>∃t:Value,r=t∧yU PG fN t #[16] (SE (sub [1,1,1,1,0,1,0] (bd Tryz.f30))) (SD (sub [1,1,1,1,0,1,0] (bd Tryz.f30))) [(5,vp (some (nb h))),(6,vp (some (nb g))),(7,vp (some (nb i))),(8,vp (some (nb k))),(9,vp (some (nb m)))] 38 j (CA (fun e=>∃d:Sl,cell e (nb k)=some (.slice d.a d.n d.c)∧St e (nb g) (vu 0) fun u=>CS u (nb k) d∧St u (nb i) (.slice d.a d.n d.c) fun v=>v[j.size]?=some (.deferred (some []))∧gi (v.setIfInBounds j.size (.deferred none)) fun o=>∃f:Int,cell o (nb g)=some (vu f)∧∃b:Sl,cell o (nb i)=some (.slice b.a b.n b.c)∧R (vt #[vu f,.slice b.a b.n b.c]:Value) o) (fun e=>e[j.size]?=some (.deferred (some []))∧gi (e.setIfInBounds j.size (.deferred none)) fun p=>∃f:Int,cell p (nb g)=some (vu f)∧∃b:Sl,cell p (nb i)=some (.slice b.a b.n b.c)∧R (vt #[vu f,.slice b.a b.n b.c]:Value) p) fun id e=>if id=0 then(∃d:Sl,cell e (nb k)=some (.slice d.a d.n d.c)∧St e (nb g) (vu 0) fun w=>CS w (nb k) d∧St w (nb i) (.slice d.a d.n d.c) fun x=>x[j.size]?=some (.deferred (some []))∧gi (x.setIfInBounds j.size (.deferred none)) fun q=>∃f:Int,cell q (nb g)=some (vu f)∧∃b:Sl,cell q (nb i)=some (.slice b.a b.n b.c)∧R (vt #[vu f,.slice b.a b.n b.c]:Value) q)else False)
def Xn(s5 s6 s7 s8 s9:Addr)(pF:Int)(lf:Sl)(l:Nat)(h:Hp)(R:RP):Prop :=
 gi (h.push (.cells #[vu 0,.slice none 0 0] 102)) fun h1=>St h1 (nb h) (vu pF) fun h2=>St h2 ((nb h).add 1) (.slice lf.a lf.n lf.c) fun h3=>∃r:Loop,h3[l]?=some (.loop r)∧r.state=.ready∧gi (h3.setIfInBounds l (.loop {r with state:=.busy})) fun h4=>∃t17:Sl,cell h4 s8=some (.slice t17.a t17.n t17.c)∧∃t19:Int,cell h4 s5=some (vi t19)∧bX (decide ((t17.n:Int)≥t19)) (∃t23:Int,cell h4 (nb h)=some (vu t23)∧∃t24:Int,cell h4 s9=some (vu t24)∧bX (t23 != t24) (∃t28:Int,cell h4 (nb h)=some (vu t28)∧∃t29:Sl,cell h4 s8=some (.slice t29.a t29.n t29.c)∧St h4 s6 (vu t28) fun h5=>CS h5 s8 t29∧St h5 s7 (.slice t29.a t29.n t29.c) fun h6=>Hf l R (some .ret) h6) (∃t31:Int,cell h4 (nb h)=some (vu t31)∧St h4 s9 (vu t31) fun h7=>∃Hr:Sl,cell h7 s8=some (.slice Hr.a Hr.n Hr.c)∧∃Hq:Sl,cell h7 ((nb h).add 1)=some (.slice Hq.a Hq.n Hq.c)∧gi (h7.push (.cells #[.slice Hq.a Hq.n Hq.c] 39)) fun h8=>im 39 1 24 #[.slice none 0 0] Hr.a Hr.n Hr.c (some (nb h7)) 1 h8 fun ra9 rn9 rc9 h9=>St h9 s8 (.slice ra9 rn9 rc9) fun Dq=>Hf l R none Dq)) (∃t31:Int,cell h4 (nb h)=some (vu t31)∧St h4 s9 (vu t31) fun Aj=>∃Hr:Sl,cell Aj s8=some (.slice Hr.a Hr.n Hr.c)∧∃Hq:Sl,cell Aj ((nb h).add 1)=some (.slice Hq.a Hq.n Hq.c)∧gi (Aj.push (.cells #[.slice Hq.a Hq.n Hq.c] 39)) fun Tl=>im 39 1 24 #[.slice none 0 0] Hr.a Hr.n Hr.c (some (nb Aj)) 1 Tl fun Vq agB agE zC=>St zC s8 (.slice Vq agB agE) fun H1=>Hf l R none H1)
theorem Xm(s5 s6 s7 s8 s9:Addr)(pF:Int)(lf:Sl)(l:Nat)(g:Nat→Value)(h:Hp)(R:RP):wE PG fN V5 l (SE (sub [1,1,1,1,0,1,0] (bd Tryz.f30))) (SD (sub [1,1,1,1,0,1,0] (bd Tryz.f30))) (lU 38 [(5,vp (some s5)),(6,vp (some s6)),(7,vp (some s7)),(8,vp (some s8)),(9,vp (some s9)),(16,.agg #[vu pF,.slice lf.a lf.n lf.c])] g) h R=Xn s5 s6 s7 s8 s9 pF lf l h R:=by kernel_rfl
noncomputable def qI(s5 s6 s7 s8 s9:Addr)(g:Nat→Value)(fn:FuncId)(b:Nat)(st:LoopState)(ph:Option Code):Loop:=Dk fn (lU 38 [(5,vp (some s5)),(6,vp (some s6)),(7,vp (some s7)),(8,vp (some s8)),(9,vp (some s9))] g) #[16] (SE (sub [1,1,1,1,0,1,0] (bd Tryz.f30))) (SD (sub [1,1,1,1,0,1,0] (bd Tryz.f30))) b st ph
theorem Xl {s5 s6 s7 s8 s9:Addr}{pF:Int}{lf:Sl}{l:Nat}{g:Nat→Value}{fn:FuncId}{b:Nat}{ph:Option Code}{h:Hp}{R:RP}(hl:h[l]?=some (.loop (qI s5 s6 s7 s8 s9 g fn b .ready ph))) (hB:Xn s5 s6 s7 s8 s9 pF lf l h R):mV PG l [.agg #[vu pF,.slice lf.a lf.n lf.c]] h R :=
 zJ (lv:=V5) (r:=qI s5 s6 s7 s8 s9 g fn b .ready ph) (env:=lU 38 [(5,vp (some s5)),(6,vp (some s6)),(7,vp (some s7)),(8,vp (some s8)),(9,vp (some s9)),(16,.agg #[vu pF,.slice lf.a lf.n lf.c])] g) mixed mh hl rfl (by kernel_rfl) (by kernel_rfl) (by kernel_rfl) (by kernel_rfl) (by kernel_rfl) (by
  show wE PG fN V5 l (SE (sub [1,1,1,1,0,1,0] (bd Tryz.f30))) (SD (sub [1,1,1,1,0,1,0] (bd Tryz.f30))) _ h R
  rw [Xm];exact hB)
theorem acl(a0:OA)(a1 a2:Int)(h:Hp)(R:RP):acz PG fN V5 Tryz.f30 (bd Tryz.f30) [.int .u64,.sl] [vp a0,vu a1,vi a2] h R=acm a0 a1 a2 h R:=by kernel_rfl
theorem RA {a0:OA}{a1 a2:Int}{h:Hp}{R:RP}(hF:acm a0 a1 a2 h R):bq PG 30 #[vp a0,vu a1,vi a2] h R :=
 uz (lv:=V5) (ik:=[.int .u64,.sl]) (c:=(bd Tryz.f30)) (args:=[vp a0,vu a1,vi a2]) mixed mh Tryz.func30 (by kernel_rfl) (by kernel_rfl) (by kernel_rfl) (by rw [acl];exact hF)
def aip(a:OA)(h:Hp)(R:RP):Prop:=bE a fun e=>∃b:Int,cell h (e.add 1)=some (vi b)∧bX (b != (0:Int)) (bE a fun f=>∃c:OA,cell h f=some (vp c)∧bE a fun g=>∃d:Int,cell h (g.add 1)=some (vi d)∧bq PG 84 #[vp c,vi d] h fun r i=>∃j:Int,r=vi j∧bE a fun k=>St i (k.add 1) (vi 0) fun l=>R (vt #[]:Value) l) (R (vt #[]:Value) h)
theorem Ry {a0:OA}{h:Hp}{R:RP}(hF:aip a0 h R):bq PG 40 #[vp a0] h R:=iY (lv:=kw) Tryz.func40 hF
def ace(a:OA)(h:Hp)(R:RP):Prop:=gi (h.push (.cells #[vi 0,vi 0,vi 0,vi 0] 70)) fun i=>bE a fun q=>∃j:Int,cell i (q.add 1)=some (vi j)∧bX (j==(0:Int)) (St i (nb h) (vi 0) fun s=>St s ((nb h).add 1) (vi 0) fun t=>St t ((nb h).add 2) (vi 0) fun u=>St u ((nb h).add 3) (vi 0) fun b=>∃c:Int,cell b (nb h)=some (vi c)∧∃d:Int,cell b ((nb h).add 1)=some (vi d)∧∃e:Int,cell b ((nb h).add 2)=some (vi e)∧∃f:Int,cell b ((nb h).add 3)=some (vi f)∧R (.agg #[vi c,vi d,vi e,vi f]:Value) b) (bq PG 24 #[vp a] i fun r v=>∃k:Int,r=vi k∧bq PG 61 #[vp a,vi 0] v fun r w=>∃l:Int,r=vu l∧bq PG 88 #[vp a,vu l] w fun r x=>∃m:Int,r=vi m∧bq PG 61 #[vp a,vi 1] x fun r y=>∃n:Int,r=vu n∧bq PG 88 #[vp a,vu n] y fun r z=>∃o:Int,r=vi o∧bq PG 61 #[vp a,vi 4] z fun r A=>∃p:Int,r=vu p∧St A (nb h) (vi k) fun B=>St B ((nb h).add 1) (vi m) fun C=>St C ((nb h).add 2) (vi o) fun D=>St D ((nb h).add 3) (vi (wrap .i64 p)) fun g=>∃c:Int,cell g (nb h)=some (vi c)∧∃d:Int,cell g ((nb h).add 1)=some (vi d)∧∃e:Int,cell g ((nb h).add 2)=some (vi e)∧∃f:Int,cell g ((nb h).add 3)=some (vi f)∧R (.agg #[vi c,vi d,vi e,vi f]:Value) g)
theorem acd(a0:OA)(h:Hp)(R:RP):evF PG fN kw Tryz.f44 (bd Tryz.f44) [.int .i64,.int .i64,.int .i64,.int .i64] [vp a0] h R=ace a0 h R:=by kernel_rfl
theorem Rw {a0:OA}{h:Hp}{R:RP}(hF:ace a0 h R):bq PG 44 #[vp a0] h R :=
 wj (lv:=kw) (ik:=[.int .i64,.int .i64,.int .i64,.int .i64]) (c:=(bd Tryz.f44)) (args:=[vp a0]) mixed mh Tryz.func44 (by kernel_rfl) (by kernel_rfl) (by rw [acd];exact hF)
def H6  (a:OA) (d:Int) (e:Bool) (h:Hp) (R:RP):Prop:=bX e (R (vt #[vp none,vi 60]:Value) h) (bq PG 90 #[vp a,vu d] h fun r b=>∃c:Int,∃f:Int,r=vt #[vi c,vi f]∧gi (b.push (.cells #[vp a,vi c] 105)) fun g=>R ((vt #[vp (some (nb b)),vi 0]:Value)) g)
def ain(a:OA)(b:Int)(h:Hp)(R:RP):Prop:=bq PG 89 #[vp a,vu b] h fun r c=>∃d:Int,∃f:Int,∃g:Int,∃e:Int,r=vt #[vi d,vi f,vi g,vi e]∧bX (e != (0:Int)) (H6  a b true c R) (H6  a b (d != (4:Int)) c R)
theorem Rv {a0:OA}{a1:Int}{h:Hp}{R:RP}(hF:ain a0 a1 h R):bq PG 45 #[vp a0,vu a1] h R:=iY (lv:=kw) Tryz.func45 hF
def aim(a:OA)(h:Hp)(R:RP):Prop:=bE a fun e=>∃b:OA,cell h e=some (vp b)∧bE a fun f=>∃c:Int,cell h (f.add 1)=some (vi c)∧∃d:Int,∃g:Int,bq PG 91 #[vp b,vi c] h (fun v h'=>v=(vt #[vu d,vi g])∧h'=h)∧R (vu d:Value) h
theorem Ru {a0:OA}{h:Hp}{R:RP}(hF:aim a0 h R):bq PG 46 #[vp a0] h R:=iY (lv:=kw) Tryz.func46 hF
def IZ(m:Nat):LN:=if m=8 then [0,3,4,6,7]else if m=11 then [0,3,4,6,7,8]else []
def aet(J:Nat→OA→Int→Int→Int→Int→Hp→Prop):Nat→LV→Hp→Prop:=IL 79 [(0,.p),(3,.i .u64),(4,.i .i64),(6,.i .i64),(7,.i .i64)] J
def Xg(J1:Nat→OA→Int→Int→Int→Int→Hp→Prop)(n1:Nat)(a:OA)(e f c d:Int)(g:Nat→Value)(h:Hp)(R:RP):Prop:=bX (decide (d<c)) (bq PG 69 #[vp a,vu e,vi d] h fun r n=>∃i:Int,r=vu i∧dO (kJ PG fN IZ (sub [1,1,1,1,1,1,0,1,0,0,1,0,0,0,1,0,0] (bd Tryz.f47))) (dW PG fN IZ [1,1,1,1,1,1,0,1,0,0,1,0,0,0,1,0] (bd Tryz.f47) [sS (aet J1) n1] (eJ PG Tryz.f47 [] R)) [(0,vp a),(3,vu e),(4,vi f),(6,vi c),(7,vi d),(8,vu i)] 79 n) (bX (c==f) (bE a fun o=>∃j:OA,cell h o=some (vp j)∧∃k:Int,bq PG 46 #[vp a] h (fun v h'=>v=(vu k)∧h'=h)∧bq PG 92 #[vp j,vu k,vi 1,vu 0] h fun r b=>∃p:Int,r=vi p∧bE a fun q=>∃l:OA,cell b q=some (vp l)∧∃m:Int,bq PG 46 #[vp a] b (fun v h'=>v=(vu m)∧h'=b)∧bq PG 92 #[vp l,vu m,vi 4,vu 0] b fun r s=>∃t:Int,r=vi t∧R (vb true:Value) s) (R (vb true:Value) h))
abbrev aoh(R:RP)(a:OA)(b c d e:Int)(f:Hp):Prop:=dO (kJ PG fN IZ (sub [1,1,1,1,1,1,0,1,0,0] (bd Tryz.f47))) (dW PG fN IZ [1,1,1,1,1,1,0,1,0] (bd Tryz.f47) [] (eJ PG Tryz.f47 [] R)) [(0,vp a),(3,vu b),(4,vi c),(6,vi d),(7,vi e)] 79 f
theorem OX {R:RP}{s0:OA}{s3 s4 s6 s7:Int}{h0:Hp}(J:Nat→OA→Int→Int→Int→Int→Hp→Prop)(n0:Nat)(hi:J n0 s0 s3 s4 s6 s7 h0)(hr:∀n s0 s3 s4 s6 s7 g h,J n s0 s3 s4 s6 s7 h→Xg  J n s0 s3 s4 s6 s7 g h R):aoh R s0 s3 s4 s6 s7 h0:=iz (l:=[(0,.p),(3,.i .u64),(4,.i .i64),(6,.i .i64),(7,.i .i64)]) (J:=J) (n0:=n0) (s0,s3,s4,s6,s7,()) hi (fun n s0 s3 s4 s6 s7 g h=>Xg  J n s0 s3 s4 s6 s7 g h R) hr
def Xf(J1:Nat→OA→Int→Int→Int→Int→Hp→Prop)(n1:Nat)(J2:Nat→OA→Int→Int→Int→Int→Int→Hp→Prop)(n2:Nat)(a:OA)(c e f d b:Int)(g:Nat→Value)(h:Hp)(R:RP):Prop:=bX (b != (0:Int)) (bq PG 69 #[vp a,vu b,vi 0] h fun r l=>∃i:Int,r=vu i∧bq PG 69 #[vp a,vu b,vi 3] l fun r n=>∃j:Int,r=vu j∧bq PG 93 #[vp a,vu b,vu j] n fun r o=>r=vt #[]∧∃m,m<n2∧J2 m a c e f d i o) (bE a fun p=>∃k:OA,cell h p=some (vp k)∧bq PG 92 #[vp k,vu c,vi d,vu 0] h fun r q=>∃s:Int,r=vi s∧∃m,m<n1∧J1 m a c e f (wrap .i64 (d+(1:Int))) q)
abbrev aog(J1:Nat→OA→Int→Int→Int→Int→Hp→Prop)(n1:Nat)(R:RP)(a:OA)(b c d e f:Int)(g:Hp):Prop:=dO (kJ PG fN IZ (sub [1,1,1,1,1,1,0,1,0,0,1,0,0,0,1,0,0] (bd Tryz.f47))) (dW PG fN IZ [1,1,1,1,1,1,0,1,0,0,1,0,0,0,1,0] (bd Tryz.f47) [sS (aet J1) n1] (eJ PG Tryz.f47 [] R)) [(0,vp a),(3,vu b),(4,vi c),(6,vi d),(7,vi e),(8,vu f)] 79 g
theorem OW {J1:Nat→OA→Int→Int→Int→Int→Hp→Prop}{n1:Nat}{R:RP}{s0:OA}{s3 s4 s6 s7 s8:Int}{h0:Hp}(J:Nat→OA→Int→Int→Int→Int→Int→Hp→Prop)(n0:Nat)(hi:J n0 s0 s3 s4 s6 s7 s8 h0)(hr:∀n s0 s3 s4 s6 s7 s8 g h,J n s0 s3 s4 s6 s7 s8 h→Xf J1 n1 J n s0 s3 s4 s6 s7 s8 g h R):aog J1 n1 R s0 s3 s4 s6 s7 s8 h0:=iz (l:=[(0,.p),(3,.i .u64),(4,.i .i64),(6,.i .i64),(7,.i .i64),(8,.i .u64)]) (J:=J) (n0:=n0) (s0,s3,s4,s6,s7,s8,()) hi (fun n s0 s3 s4 s6 s7 s8 g h=>Xf J1 n1 J n s0 s3 s4 s6 s7 s8 g h R) hr
def ail(a:OA)(h:Hp)(R:RP):Prop:=bq PG 61 #[vp a,vi 1] h fun r f=>∃d:Int,r=vu d∧bX (d==(0:Int)) (R (vb false:Value) f) (bq PG 88 #[vp a,vu d] f fun r j=>∃b:Int,r=vi b∧bq PG 61 #[vp a,vi 4] j fun r e=>∃c:Int,r=vu c∧bE a fun k=>∃g:OA,cell e k=some (vp g)∧∃i:Int,bq PG 46 #[vp a] e (fun v h'=>v=(vu i)∧h'=e)∧bq PG 92 #[vp g,vu i,vi 4,vu (wrap .u64 (if(wrap .i64 ((wrap .i64 c)+(16:Int)))<b then(wrap .i64 ((wrap .i64 c)+(16:Int)))else b))] e fun r l=>∃m:Int,r=vi m∧dO (kJ PG fN IZ (sub [1,1,1,1,1,1,0,1,0,0] (bd Tryz.f47))) (dW PG fN IZ [1,1,1,1,1,1,0,1,0] (bd Tryz.f47) [] (eJ PG Tryz.f47 [] R)) [(0,vp a),(3,vu d),(4,vi b),(6,vi (if(wrap .i64 ((wrap .i64 c)+(16:Int)))<b then(wrap .i64 ((wrap .i64 c)+(16:Int)))else b)),(7,vi (wrap .i64 c))] 79 l)
theorem Rt {a0:OA}{h:Hp}{R:RP}(hF:ail a0 h R):bq PG 47 #[vp a0] h R:=iY (lv:=IZ) Tryz.func47 hF
def Tq(b:OA)(d:Sl)(x y z:Int)(h:Hp)(R:RP):Prop:=bE b fun Z=>∃A:Int,cell h (Z.add 1)=some (vi A)∧bX (A==(0:Int)) (R (vt #[vb false,vi 61]:Value) h) (bX (decide ((d.n:Int)>(4096:Int))) (R (vt #[vb false,vi 62]:Value) h) (bE b fun aa=>∃B:OA,cell h aa=some (vp B)∧bq PG 90 #[vp B,vu x] h fun r l=>∃e:Int,∃C:Int,r=vt #[vi e,vi C]∧bX (C != (0:Int)) (R (vt #[vb false,vi 32]:Value) l) (bE b fun ab=>∃f:OA,cell l ab=some (vp f)∧bq PG 47 #[vp b] l fun r ac=>∃ad:Bool,r=vb ad∧bq PG 61 #[vp b,vi 2] ac fun r ae=>∃D:Int,r=vu D∧bq PG 68 #[vu D,.slice d.a d.n d.c] ae fun r af=>∃i:Int,r=vu i∧bq PG 67 #[vp b,vu i,.slice d.a d.n d.c] af fun r j=>∃ag:Int,∃ah:Int,∃m:Int,r=vt #[vu ag,vi ah,vu m]∧bX (m != (0:Int)) (bq PG 94 #[vp b,vu m,vu x,vu y,vu z] j fun r ai=>r=vt #[]∧qM PG 84 #[vp f,vi e] ai fun _ aj=>R (vt #[vb false,vi 0]:Value) aj) (bE b fun ak=>∃E:OA,cell j ak=some (vp E)∧gi (j.push (.cells #[.slice d.a d.n d.c] 39)) fun al=>bq PG 95 #[vp E,.slice (some (nb j)) 1 1] al fun r o=>∃F:Int,∃p:Int,r=vt #[vu F,vi p]∧bX (p != (0:Int)) (qM PG 84 #[vp f,vi e] o fun _ am=>R (vt #[vb false,vi p]:Value) am) (bE b fun an=>∃G:OA,cell o an=some (vp G)∧bq PG 90 #[vp G,vu F] o fun r H=>∃q:Int,∃ao:Int,r=vt #[vi q,vi ao]∧bE b fun ap=>∃I:OA,cell H ap=some (vp I)∧bq PG 96 #[vp I,vi 6,vi 3,vi 3] H fun r J=>∃g:Int,∃s:Int,r=vt #[vu g,vi s]∧bE b fun aq=>∃K:OA,cell J aq=some (vp K)∧bq PG 91 #[vp K,vi q] J fun r L=>∃M:Int,∃ar:Int,r=vt #[vu M,vi ar]∧bE b fun au=>∃N:OA,cell L au=some (vp N)∧bq PG 84 #[vp N,vi q] L fun r t=>∃av:Int,r=vi av∧bX (s != (0:Int)) (qM PG 84 #[vp f,vi e] t fun _ aw=>R (vt #[vb false,vi s]:Value) aw) (bE b fun ax=>∃O:OA,cell t ax=some (vp O)∧bq PG 91 #[vp O,vi e] t fun r P=>∃Q:Int,∃ay:Int,r=vt #[vu Q,vi ay]∧bE b fun az=>∃S:OA,cell P az=some (vp S)∧bq PG 92 #[vp S,vu g,vi 1,vu M] P fun r T=>∃aA:Int,r=vi aA∧bE b fun aB=>∃U:OA,cell T aB=some (vp U)∧bq PG 92 #[vp U,vu g,vi 3,vu i] T fun r aC=>∃aD:Int,r=vi aD∧bq PG 94 #[vp b,vu g,vu Q,vu y,vu z] aC fun r aE=>r=vt #[]∧bq PG 93 #[vp b,vu g,vu i] aE fun r aF=>r=vt #[]∧bq PG 24 #[vp b] aF fun r k=>∃u:Int,r=vi u∧bE b fun aG=>∃V:OA,cell k aG=some (vp V)∧∃W:Int,bq PG 46 #[vp b] k (fun v h'=>v=(vu W)∧h'=k)∧bq PG 92 #[vp V,vu W,vi 3,vu (wrap .u64 (wrap .i64 (u+(1:Int))))] k fun r aH=>∃aI:Int,r=vi aI∧bq PG 61 #[vp b,vi 0] aH fun r aJ=>∃X:Int,r=vu X∧bq PG 88 #[vp b,vu X] aJ fun r Y=>∃w:Int,r=vi w∧bX (decide ((wrap .i64 (u+(1:Int)))>w)) (bq PG 97 #[vp b,vi (wrap .i64 ((2:Int)*w))] Y fun r aK=>r=vt #[]∧qM PG 84 #[vp f,vi e] aK fun _ aL=>R (vt #[vb true,vi 0]:Value) aL) (qM PG 84 #[vp f,vi e] Y fun _ aM=>R (vt #[vb true,vi 0]:Value) aM)))))))
theorem acb(a0:OA)(a1:Sl)(a2 a3 a4:Int)(h:Hp)(R:RP):aow PG fN kw Tryz.f48 (bd Tryz.f48) [] [vp a0,.slice a1.a a1.n a1.c,vu a2,vu a3,vu a4] h R=Tq a0 a1 a2 a3 a4 h R:=by kernel_rfl
theorem DN {a0:OA}{a1:Sl}{a2 a3 a4:Int}{h:Hp}{R:RP}(hF:Tq a0 a1 a2 a3 a4 h R):bq PG 48 #[vp a0,vl a1,vu a2,vu a3,vu a4] h R :=
 Hc (lv:=kw) (ik:=[]) (c:=(bd Tryz.f48)) (args:=[vp a0,.slice a1.a a1.n a1.c,vu a2,vu a3,vu a4]) mixed mh Tryz.func48 (by kernel_rfl) (by kernel_rfl) (by rw [acb];exact hF)
def Rr  (a:OA) (b:Int) (c:Bool) (h:Hp) (R:RP):Prop:=bX c ((2:Int)≠0∧bq PG 97 #[vp a,vi (wrap .i64 (Int.tdiv b (2:Int)))] h fun r d=>r=vt #[]∧R (vi 0:Value) d) (R (vi 0:Value) h)
def aik(b:OA)(d:Sl)(h:Hp)(R:RP):Prop:=bE b fun A=>∃l:Int,cell h (A.add 1)=some (vi l)∧bX (l==(0:Int)) (R (vi 61:Value) h) (bq PG 47 #[vp b] h fun r B=>∃C:Bool,r=vb C∧bq PG 61 #[vp b,vi 2] B fun r D=>∃m:Int,r=vu m∧bq PG 68 #[vu m,.slice d.a d.n d.c] D fun r E=>∃o:Int,r=vu o∧bq PG 67 #[vp b,vu o,.slice d.a d.n d.c] E fun r g=>∃p:Int,∃q:Int,∃i:Int,r=vt #[vu p,vi q,vu i]∧bX (i==(0:Int)) (R (vi 63:Value) g) (bE b fun s=>∃j:OA,cell g s=some (vp j)∧bq PG 69 #[vp b,vu i,vi 0] g fun r t=>∃u:Int,r=vu u∧CP t s j∧bq PG 92 #[vp j,vu p,vi q,vu u] t fun r F=>∃G:Int,r=vi G∧bq PG 24 #[vp b] F fun r f=>∃k:Int,r=vi k∧bE b fun H=>∃w:OA,cell f H=some (vp w)∧∃x:Int,bq PG 46 #[vp b] f (fun v h'=>v=(vu x)∧h'=f)∧bq PG 92 #[vp w,vu x,vi 3,vu (wrap .u64 (wrap .i64 (k-(1:Int))))] f fun r I=>∃J:Int,r=vi J∧bq PG 61 #[vp b,vi 0] I fun r K=>∃y:Int,r=vu y∧bq PG 88 #[vp b,vu y] K fun r z=>∃e:Int,r=vi e∧bX (decide (e>(4:Int))) (Rr  b e (decide ((wrap .i64 ((4:Int)*(wrap .i64 (k-(1:Int)))))<e)) z R) (Rr  b e false z R)))
theorem Rs {a0:OA}{a1:Sl}{h:Hp}{R:RP}(hF:aik a0 a1 h R):bq PG 49 #[vp a0,vl a1] h R:=iY (lv:=kw) Tryz.func49 hF
def aof(a:OA)(h:Hp)(R:RP):Prop:=gi (h.push (.cells #[vp a] 32)) fun b=>R ((.func (.func 98) #[] #[vp (some (nb h))]:Value)) b
theorem aca {a0:OA}{h:Hp}{R:RP}(hF:aof a0 h R):bq PG 50 #[vp a0] h R:=iY (lv:=kw) Tryz.func50 hF
def aoa(a:OA)(k:Int)(h:Hp)(R:RP):Prop:=bq PG 96 #[vp a,vi 4,vi 2,vi 3] h fun r g=>∃c:Int,∃d:Int,r=vt #[vu c,vi d]∧bX (d != (0:Int)) (R (vt #[vp none,vi d]:Value) g) (bq PG 92 #[vp a,vu c,vi 2,vu k] g fun r l=>∃m:Int,r=vi m∧bq PG 90 #[vp a,vu c] l fun r n=>∃e:Int,∃o:Int,r=vt #[vi e,vi o]∧bq PG 96 #[vp a,vi 5,vi 4,vi 0] n fun r b=>∃i:Int,∃f:Int,r=vt #[vu i,vi f]∧bX (f != (0:Int)) (bq PG 84 #[vp a,vi e] b fun r p=>∃q:Int,r=vi q∧R (vt #[vp none,vi f]:Value) p) (gi (b.push (.cells #[vp a,vi e] 105)) fun s=>bq PG 46 #[vp (some (nb b))] s fun r t=>∃j:Int,r=vu j∧bq PG 92 #[vp a,vu j,vi 0,vu i] t fun r u=>∃v:Int,r=vi v∧R ((vt #[vp (some (nb b)),vi 0]:Value)) u))
theorem ab5 {a0:OA}{a1:Int}{h:Hp}{R:RP}(hF:aoa a0 a1 h R):bq PG 58 #[vp a0,vu a1] h R:=iY (lv:=kw) Tryz.func58 hF
def Xd(a:OA)(d:Int)(h:Hp)(R:RP):Prop:=bq PG 46 #[vp a] h fun r e=>∃b:Int,r=vu b∧bq PG 69 #[vp a,vu b,vi d] e fun r f=>∃c:Int,r=vu c∧R (vu c:Value) f
theorem DM {a0:OA}{a1:Int}{h:Hp}{R:RP}(hF:Xd a0 a1 h R):bq PG 61 #[vp a0,vi a1] h R:=iY (lv:=kw) Tryz.func61 hF
def an6(b:OA)(c:Int)(h:Hp)(R:RP):Prop:=gi (h.push (.cells #[vp b] 32)) fun a=>gi (a.push (.cells #[vu c] 27)) fun d=>R ((.func (.func 107) #[] #[vp (some (nb h)),vp (some (nb a))]:Value)) d
theorem ab2 {a0:OA}{a1:Int}{h:Hp}{R:RP}(hF:an6 a0 a1 h R):bq PG 63 #[vp a0,vu a1] h R:=iY (lv:=kw) Tryz.func63 hF
def an5(b:Sl)(d:Value)(h:Hp)(R:RP):Prop:=bq PG 112 #[.slice b.a b.n b.c,d] h fun r e=>r=vt #[]∧R (.slice b.a b.n b.c:Value) e
theorem ab1 {a0:Sl}{a1:Value}{h:Hp}{R:RP}(hF:an5 a0 a1 h R):bq PG 64 #[vl a0,a1] h R:=iY (lv:=kw) Tryz.func64 hF
def V1(m:Nat):LN:=if m=2 then [0,1,2,6,7]else []
def Xb(J1:Nat→OA→Int→Sl→Int→Int→Hp→Prop)(n1:Nat)(d:OA)(f:Int)(e:Sl)(i j:Int)(g:Nat→Value)(h:Hp)(R:RP):Prop:=bq PG 69 #[vp d,vu i,vi j] h fun r o=>∃b:Int,r=vu b∧bX (b==(0:Int)) (R (vt #[vu i,vi j,vu 0]:Value) o) (bq PG 69 #[vp d,vu b,vi 3] o fun r k=>∃p:Int,r=vu p∧bX (p==f) (bE d fun q=>∃l:OA,cell k q=some (vp l)∧bq PG 69 #[vp d,vu b,vi 1] k fun r s=>∃t:Int,r=vu t∧CP s q l∧bq PG 115 #[vp l,vu t,.slice e.a e.n e.c] s fun r u=>∃v:Int,∃w:Int,r=vt #[vi v,vi w]∧bX (v==(0:Int)) (R (vt #[vu i,vi j,vu b]:Value) u) (∃m,m<n1∧J1 m d f e b (0:Int) u)) (∃m,m<n1∧J1 m d f e b (0:Int) k))
abbrev an0(R:RP)(a:OA)(b:Int)(s2a:OA)(s2n s2c:Nat)(c d:Int)(e:Hp):Prop:=dO (kJ PG fN V1 (sub [1,1,0,0] (bd Tryz.f67))) (dW PG fN V1 [1,1,0] (bd Tryz.f67) [] (eJ PG Tryz.f67 [] R)) [(0,vp a),(1,vu b),(2,.slice s2a s2n s2c),(6,vu c),(7,vi d)] 48 e
theorem OU {R:RP}{s0:OA}{s1:Int}{s2:Sl}{s6 s7:Int}{h0:Hp}(J:Nat→OA→Int→Sl→Int→Int→Hp→Prop)(n0:Nat)(hi:J n0 s0 s1 s2 s6 s7 h0)(hr:∀n s0 s1 s2 s6 s7 g h,J n s0 s1 s2 s6 s7 h→Xb  J n s0 s1 s2 s6 s7 g h R):an0 R s0 s1 s2.a s2.n s2.c s6 s7 h0:=iz (l:=[(0,.p),(1,.i .u64),(2,.l),(6,.i .u64),(7,.i .i64)]) (J:=J) (n0:=n0) (s0,s1,s2,s6,s7,()) hi (fun n s0 s1 s2 s6 s7 g h=>Xb  J n s0 s1 s2 s6 s7 g h R) hr
def anZ(d:OA)(e:Int)(b:Sl)(h:Hp)(R:RP):Prop:=bq PG 114 #[vp d,vu e] h fun r i=>∃f:Int,∃g:Int,r=vt #[vu f,vi g]∧dO (kJ PG fN V1 (sub [1,1,0,0] (bd Tryz.f67))) (dW PG fN V1 [1,1,0] (bd Tryz.f67) [] (eJ PG Tryz.f67 [] R)) [(0,vp d),(1,vu e),(2,.slice b.a b.n b.c),(6,vu f),(7,vi g)] 48 i
theorem abY {a0:OA}{a1:Int}{a2:Sl}{h:Hp}{R:RP}(hF:anZ a0 a1 a2 h R):bq PG 67 #[vp a0,vu a1,vl a2] h R:=iY (lv:=V1) Tryz.func67 hF
def abW(c:OA)(d e:Int)(h:Hp)(R:RP):Prop:=bE c fun f=>∃a:OA,cell h f=some (vp a)∧bq PG 72 #[vp a,vu d,vi e] h fun r g=>∃b:Int,∃i:Int,r=vt #[vu b,vi i]∧R (vu b:Value) g
theorem Jp {a0:OA}{a1 a2:Int}{h:Hp}{R:RP}(hF:abW a0 a1 a2 h R):bq PG 69 #[vp a0,vu a1,vi a2] h R:=iY (lv:=kw) Tryz.func69 hF
def aij(c:OA)(d:Int)(h:Hp)(R:RP):Prop:=bE c fun e=>∃a:OA,cell h e=some (vp a)∧bq PG 89 #[vp a,vu d] h fun r f=>∃g:Int,∃b:Int,∃i:Int,∃j:Int,r=vt #[vi g,vi b,vi i,vi j]∧R (vi b:Value) f
theorem Rl {a0:OA}{a1:Int}{h:Hp}{R:RP}(hF:aij a0 a1 h R):bq PG 88 #[vp a0,vu a1] h R:=iY (lv:=kw) Tryz.func88 hF
def anI(a:OA)(e m:Int)(h:Hp)(R:RP):Prop:=bq PG 114 #[vp a,vu m] h fun r f=>∃b:Int,∃c:Int,r=vt #[vu b,vi c]∧bE a fun g=>∃d:OA,cell f g=some (vp d)∧bq PG 69 #[vp a,vu b,vi c] f fun r i=>∃j:Int,r=vu j∧CP i g d∧bq PG 92 #[vp d,vu e,vi 0,vu j] i fun r k=>∃n:Int,r=vi n∧bE a fun o=>∃l:OA,cell k o=some (vp l)∧bq PG 92 #[vp l,vu b,vi c,vu e] k fun r p=>∃q:Int,r=vi q∧R (vt #[]:Value) p
theorem abJ {a0:OA}{a1 a2:Int}{h:Hp}{R:RP}(hF:anI a0 a1 a2 h R):bq PG 93 #[vp a0,vu a1,vu a2] h R:=iY (lv:=kw) Tryz.func93 hF
def anH(a:OA)(b i j k:Int)(h:Hp)(R:RP):Prop:=bE a fun l=>∃c:OA,cell h l=some (vp c)∧bq PG 92 #[vp c,vu b,vi 2,vu i] h fun r d=>∃m:Int,r=vi m∧bE a fun n=>∃e:OA,cell d n=some (vp e)∧bq PG 92 #[vp e,vu b,vi 4,vu j] d fun r f=>∃o:Int,r=vi o∧bE a fun p=>∃g:OA,cell f p=some (vp g)∧bq PG 92 #[vp g,vu b,vi 5,vu k] f fun r q=>∃s:Int,r=vi s∧R (vt #[]:Value) q
theorem abI {a0:OA}{a1 a2 a3 a4:Int}{h:Hp}{R:RP}(hF:anH a0 a1 a2 a3 a4 h R):bq PG 94 #[vp a0,vu a1,vu a2,vu a3,vu a4] h R:=iY (lv:=kw) Tryz.func94 hF
def anC(a:OA)(u:Int)(h:Hp)(R:RP):Prop:=bq PG 61 #[vp a,vi 1] h fun r e=>∃g:Int,r=vu g∧bX (g != (0:Int)) (R (vt #[]:Value) e) (bE a fun w=>∃i:OA,cell e w=some (vp i)∧bq PG 96 #[vp i,vi 5,vi u,vi 0] e fun r b=>∃j:Int,∃k:Int,r=vt #[vu j,vi k]∧bX (k != (0:Int)) (R (vt #[]:Value) b) (bE a fun l=>∃f:OA,cell b l=some (vp f)∧∃m:Int,bq PG 46 #[vp a] b (fun v h'=>v=(vu m)∧h'=b)∧bq PG 61 #[vp a,vi 0] b fun r n=>∃o:Int,r=vu o∧CP n l f∧bq PG 92 #[vp f,vu m,vi 1,vu o] n fun r c=>∃x:Int,r=vi x∧bE a fun y=>∃p:OA,cell c y=some (vp p)∧∃q:Int,bq PG 46 #[vp a] c (fun v h'=>v=(vu q)∧h'=c)∧bq PG 92 #[vp p,vu q,vi 0,vu j] c fun r d=>∃z:Int,r=vi z∧bE a fun A=>∃s:OA,cell d A=some (vp s)∧∃t:Int,bq PG 46 #[vp a] d (fun v h'=>v=(vu t)∧h'=d)∧bq PG 92 #[vp s,vu t,vi 4,vu 0] d fun r B=>∃C:Int,r=vi C∧R (vt #[]:Value) B))
theorem abF {a0:OA}{a1:Int}{h:Hp}{R:RP}(hF:anC a0 a1 h R):bq PG 97 #[vp a0,vi a1] h R:=iY (lv:=kw) Tryz.func97 hF
def SX(m:Nat):LN:=if m=2 then [0,14,15,16]else []
def Rj(J1:Nat→Value→Sl→Int→Int→Hp→Prop)(n1:Nat)(f:Value)(e:Sl)(i d:Int)(g:Nat→Value)(h:Hp)(R:RP):Prop:=bX (decide (d<i)) ((0≤d∧d<(e.n:Int))∧bE e.a fun l=>∃b:Sl,cell h (l.add (d.toNat*1))=some (.slice b.a b.n b.c)∧ajq PG f [.slice b.a b.n b.c] h fun r j=>∃k:Bool,r=vb k∧bX (!k) (R (vt #[]:Value) j) (∃m,m<n1∧J1 m f e i (wrap .i64 (d+(1:Int))) j)) (R (vt #[]:Value) h)
abbrev anB(R:RP)(a:Value)(aq3:OA)(aq1 aq2:Nat)(b c:Int)(d:Hp):Prop:=dO (uw PG fN SX (sub [1,1,0,0] (bd Tryz.f98))) (lM PG fN SX [1,1,0] (bd Tryz.f98) [] (eJ PG Tryz.f98 [] R)) [(0,a),(14,.slice aq3 aq1 aq2),(15,vi b),(16,vi c)] 25 d
theorem Ft {R:RP}{s0:Value}{uP:Sl}{qS wJ:Int}{h0:Hp}(J:Nat→Value→Sl→Int→Int→Hp→Prop)(n0:Nat)(hi:J n0 s0 uP qS wJ h0)(hr:∀n s0 uP qS wJ g h,J n s0 uP qS wJ h→Rj  J n s0 uP qS wJ g h R):anB R s0 uP.a uP.n uP.c qS wJ h0:=iz (l:=[(0,.v),(14,.l),(15,.i .i64),(16,.i .i64)]) (J:=J) (n0:=n0) (s0,uP,qS,wJ,()) hi (fun n s0 uP qS wJ g h=>Rj  J n s0 uP qS wJ g h R) hr
def abE(i:Value)(c0:Addr)(h:Hp)(R:RP):Prop:=∃d:OA,cell h c0=some (vp d)∧∃e:OA,cell h c0=some (vp e)∧bq PG 24 #[vp e] h fun r f=>∃g:Int,r=vi g∧CP f c0 d∧bq PG 30 #[vp d,vu 0,vi g] f fun r j=>∃k:Int,∃b:Sl,r=vt #[vu k,.slice b.a b.n b.c]∧dO (uw PG fN SX (sub [1,1,0,0] (bd Tryz.f98))) (lM PG fN SX [1,1,0] (bd Tryz.f98) [] (eJ PG Tryz.f98 [] R)) [(0,i),(14,.slice b.a b.n b.c),(15,vi (b.n:Int)),(16,vi 0)] 25 j
theorem abD(a0:Value)(c0:Addr)(h:Hp)(R:RP):aiQ PG fN SX Tryz.f98 (bd Tryz.f98) [] [a0,vp (some c0)] h R=abE a0 c0 h R:=by kernel_rfl
theorem Rk {a0:Value}{c0:Addr}{h:Hp}{R:RP}(hF:abE a0 c0 h R):bq PG 98 #[a0,vp (some c0)] h R :=
 zG (lv:=SX) (ik:=[]) (c:=(bd Tryz.f98)) (args:=[a0,vp (some c0)]) mixed mh Tryz.func98 (by kernel_rfl) (by kernel_rfl) (by kernel_rfl) (by rw [abD];exact hF)
def pU(m:Nat):LN:=if m=8 then [0,1,2,4,5,7]else if m=12 then [0,1,2,4,5,7,8,49,50,51]else if m=16 then [0,1,2,4,5,7,8,10,11,12,49,50,51]else if m=21 then [0,1,2,4,5,7,78,79,80]else []
def Cl(J:Nat→Value→Addr→Addr→Sl→Int→Int→Hp→Prop):Nat→LV→Hp→Prop:=IL 95 [(0,.v),(1,.a),(2,.a),(4,.l),(5,.i .i64),(7,.i .i64)] J
def YE(J:Nat→Value→Addr→Addr→Sl→Int→Int→Sl→Sl→Int→Int→Hp→Prop):Nat→LV→Hp→Prop:=IL 95 [(0,.v),(1,.a),(2,.a),(4,.l),(5,.i .i64),(7,.i .i64),(8,.l),(49,.l),(50,.i .i64),(51,.i .i64)] J
def FE(J1:Nat→Value→Addr→Addr→Sl→Int→Int→Hp→Prop)(n1:Nat)(J4:Nat→Value→Addr→Addr→Sl→Int→Int→Sl→Int→Int→Hp→Prop)(n4:Nat)(a:Value)(b c:Addr)(d:Sl)(e f:Int)(g:Sl)(i j:Int)(k:Bool)(h:Hp)(R:RP):Prop:=bX k (R (vt #[]:Value) h) (∃m,m<n4∧J4 m a b c d e f g i (wrap .i64 (j+(1:Int))) h)
def JH  (i:Value) (j d:Addr) (b:Sl) (e:Int) (h:Hp) (R:RP):Prop:=∃f:Int,cell h d=some (vu f)∧bq PG 108 #[vu f,vi e] h fun r k=>∃g:Int,r=vi g∧dO (uw PG fN pU (sub [1,1,1,1,1,0,0] (bd Tryz.f107))) (lM PG fN pU [1,1,1,1,1,0] (bd Tryz.f107) [] (eJ PG Tryz.f107 [] R)) [(0,i),(1,vp (some j)),(2,vp (some d)),(4,.slice b.a b.n b.c),(5,vi e),(7,vi g)] 95 k
abbrev YG(J1:Nat→Value→Addr→Addr→Sl→Int→Int→Hp→Prop)(n1:Nat)(R:RP)(a:Value)(b c:Addr)(s4a:OA)(s4n s4c:Nat)(d e:Int)(s8a:OA)(s8n s8c:Nat)(agt:OA)(agr ags:Nat)(f g:Int)(h:Hp):Prop:=dO (uw PG fN pU (sub [1,1,1,1,1,0,0,1,0,0,1,0,1,0,0] (bd Tryz.f107))) (lM PG fN pU [1,1,1,1,1,0,0,1,0,0,1,0,1,0] (bd Tryz.f107) [sS (Cl J1) n1] (eJ PG Tryz.f107 [] R)) [(0,a),(1,vp (some b)),(2,vp (some c)),(4,.slice s4a s4n s4c),(5,vi d),(7,vi e),(8,.slice s8a s8n s8c),(49,.slice agt agr ags),(50,vi f),(51,vi g)] 95 h
def FD(J1:Nat→Value→Addr→Addr→Sl→Int→Int→Hp→Prop)(n1:Nat)(f:Value)(i j:Addr)(b:Sl)(d e:Int)(g:Nat→Value)(h:Hp)(R:RP):Prop:=bX (decide (e<d)) (YG J1 n1 R f i j b.a b.n b.c d e none 0 0 b.a b.n b.c (b.n:Int) 0 h) (R (vt #[]:Value) h)
abbrev aiM(R:RP)(a:Value)(b c:Addr)(s4a:OA)(s4n s4c:Nat)(d e:Int)(f:Hp):Prop:=dO (uw PG fN pU (sub [1,1,1,1,1,0,0] (bd Tryz.f107))) (lM PG fN pU [1,1,1,1,1,0] (bd Tryz.f107) [] (eJ PG Tryz.f107 [] R)) [(0,a),(1,vp (some b)),(2,vp (some c)),(4,.slice s4a s4n s4c),(5,vi d),(7,vi e)] 95 f
theorem MM {R:RP}{s0:Value}{s1 s2:Addr}{s4:Sl}{s5 s7:Int}{h0:Hp}(J:Nat→Value→Addr→Addr→Sl→Int→Int→Hp→Prop)(n0:Nat)(hi:J n0 s0 s1 s2 s4 s5 s7 h0)(hr:∀n s0 s1 s2 s4 s5 s7 g h,J n s0 s1 s2 s4 s5 s7 h→FD  J n s0 s1 s2 s4 s5 s7 g h R):aiM R s0 s1 s2 s4.a s4.n s4.c s5 s7 h0:=iz (l:=[(0,.v),(1,.a),(2,.a),(4,.l),(5,.i .i64),(7,.i .i64)]) (J:=J) (n0:=n0) (s0,s1,s2,s4,s5,s7,()) hi (fun n s0 s1 s2 s4 s5 s7 g h=>FD  J n s0 s1 s2 s4 s5 s7 g h R) hr
def Pu(J1:Nat→Value→Addr→Addr→Sl→Int→Int→Hp→Prop)(n1:Nat)(J2:Nat→Value→Addr→Addr→Sl→Int→Int→Sl→Sl→Int→Int→Hp→Prop)(n2:Nat)(p:Value)(k q:Addr)(d:Sl)(f l:Int)(e i:Sl)(s j:Int)(g:Nat→Value)(h:Hp)(R:RP):Prop:=bX (decide (j<s)) ((0≤j∧j<(i.n:Int))∧bE i.a fun u=>∃m:Int,cell h (u.add (j.toNat*1))=some (vu m)∧∃t:OA,cell h k=some (vp t)∧bq PG 88 #[vp t,vu m] h fun r v=>∃o:Int,r=vi o∧f≠0∧dO (uw PG fN pU (sub [1,1,1,1,1,0,0,1,0,0,1,0,1,0,0,1,1,0,0,1,1,1,0,0] (bd Tryz.f107))) (lM PG fN pU [1,1,1,1,1,0,0,1,0,0,1,0,1,0,0,1,1,0,0,1,1,1,0] (bd Tryz.f107) [sS (Cl J1) n1,sS (YE J2) n2] (eJ PG Tryz.f107 [] R)) [(0,p),(1,vp (some k)),(2,vp (some q)),(4,.slice d.a d.n d.c),(5,vi f),(7,vi l),(8,.slice e.a e.n e.c),(10,vu m),(11,vi (wrap .i64 (Int.tdiv o f))),(12,vi (wrap .i64 (l*(wrap .i64 (Int.tdiv o f))))),(49,.slice i.a i.n i.c),(50,vi s),(51,vi j)] 95 v) (bq PG 110 #[.slice e.a e.n e.c,.func (.func 111) #[] #[]] h fun r w=>∃b:Sl,r=.slice b.a b.n b.c∧dO (uw PG fN pU (sub [1,1,1,1,1,0,0,1,0,0,1,1,1,0,0] (bd Tryz.f107))) (lM PG fN pU [1,1,1,1,1,0,0,1,0,0,1,1,1,0] (bd Tryz.f107) [sS (Cl J1) n1] (eJ PG Tryz.f107 [] R)) [(0,p),(1,vp (some k)),(2,vp (some q)),(4,.slice d.a d.n d.c),(5,vi f),(7,vi l),(78,.slice b.a b.n b.c),(79,vi (b.n:Int)),(80,vi 0)] 95 w)
theorem ML {J1:Nat→Value→Addr→Addr→Sl→Int→Int→Hp→Prop}{n1:Nat}{R:RP}{s0:Value}{s1 s2:Addr}{s4:Sl}{s5 s7:Int}{s8 A0:Sl}{Et Es:Int}{h0:Hp}(J:Nat→Value→Addr→Addr→Sl→Int→Int→Sl→Sl→Int→Int→Hp→Prop)(n0:Nat)(hi:J n0 s0 s1 s2 s4 s5 s7 s8 A0 Et Es h0)(hr:∀n s0 s1 s2 s4 s5 s7 s8 A0 Et Es g h,J n s0 s1 s2 s4 s5 s7 s8 A0 Et Es h→Pu J1 n1 J n s0 s1 s2 s4 s5 s7 s8 A0 Et Es g h R):YG J1 n1 R s0 s1 s2 s4.a s4.n s4.c s5 s7 s8.a s8.n s8.c A0.a A0.n A0.c Et Es h0:=iz (l:=[(0,.v),(1,.a),(2,.a),(4,.l),(5,.i .i64),(7,.i .i64),(8,.l),(49,.l),(50,.i .i64),(51,.i .i64)]) (J:=J) (n0:=n0) (s0,s1,s2,s4,s5,s7,s8,A0,Et,Es,()) hi (fun n s0 s1 s2 s4 s5 s7 s8 A0 Et Es g h=>Pu J1 n1 J n s0 s1 s2 s4 s5 s7 s8 A0 Et Es g h R) hr
def Pt(J1:Nat→Value→Addr→Addr→Sl→Int→Int→Hp→Prop)(n1:Nat)(J2:Nat→Value→Addr→Addr→Sl→Int→Int→Sl→Sl→Int→Int→Hp→Prop)(n2:Nat)(J3:Nat→Value→Addr→Addr→Sl→Int→Int→Sl→Int→Int→Int→Sl→Int→Int→Hp→Prop)(n3:Nat)(j:Value)(e k:Addr)(l:Sl)(o f:Int)(b:Sl)(p q i:Int)(s:Sl)(t u:Int)(g:Nat→Value)(h:Hp)(R:RP):Prop:=bX (decide (i<(wrap .i64 ((wrap .i64 (f+(1:Int)))*q)))) (∃v:OA,cell h e=some (vp v)∧bq PG 109 #[vp v,.slice b.a b.n b.c,vu p,vi i] h fun r w=>∃d:Sl,r=.slice d.a d.n d.c∧∃m,m<n3∧J3 m j e k l o f d p q (wrap .i64 (i+(1:Int))) s t u w) (∃m,m<n2∧J2 m j e k l o f b s t (wrap .i64 (u+(1:Int))) h)
abbrev aiL(J1:Nat→Value→Addr→Addr→Sl→Int→Int→Hp→Prop)(n1:Nat)(J2:Nat→Value→Addr→Addr→Sl→Int→Int→Sl→Sl→Int→Int→Hp→Prop)(n2:Nat)(R:RP)(a:Value)(b c:Addr)(s4a:OA)(s4n s4c:Nat)(d e:Int)(s8a:OA)(s8n s8c:Nat)(f g h:Int)(agt:OA)(agr ags:Nat)(i j:Int)(k:Hp):Prop:=dO (uw PG fN pU (sub [1,1,1,1,1,0,0,1,0,0,1,0,1,0,0,1,1,0,0,1,1,1,0,0] (bd Tryz.f107))) (lM PG fN pU [1,1,1,1,1,0,0,1,0,0,1,0,1,0,0,1,1,0,0,1,1,1,0] (bd Tryz.f107) [sS (Cl J1) n1,sS (YE J2) n2] (eJ PG Tryz.f107 [] R)) [(0,a),(1,vp (some b)),(2,vp (some c)),(4,.slice s4a s4n s4c),(5,vi d),(7,vi e),(8,.slice s8a s8n s8c),(10,vu f),(11,vi g),(12,vi h),(49,.slice agt agr ags),(50,vi i),(51,vi j)] 95 k
theorem MK {J1:Nat→Value→Addr→Addr→Sl→Int→Int→Hp→Prop}{n1:Nat}{J2:Nat→Value→Addr→Addr→Sl→Int→Int→Sl→Sl→Int→Int→Hp→Prop}{n2:Nat}{R:RP}{s0:Value}{s1 s2:Addr}{s4:Sl}{s5 s7:Int}{s8:Sl}{oh pc rO:Int}{A0:Sl}{Et Es:Int}{h0:Hp}(J:Nat→Value→Addr→Addr→Sl→Int→Int→Sl→Int→Int→Int→Sl→Int→Int→Hp→Prop)(n0:Nat)(hi:J n0 s0 s1 s2 s4 s5 s7 s8 oh pc rO A0 Et Es h0)(hr:∀n s0 s1 s2 s4 s5 s7 s8 oh pc rO A0 Et Es g h,J n s0 s1 s2 s4 s5 s7 s8 oh pc rO A0 Et Es h→Pt J1 n1 J2 n2 J n s0 s1 s2 s4 s5 s7 s8 oh pc rO A0 Et Es g h R):aiL J1 n1 J2 n2 R s0 s1 s2 s4.a s4.n s4.c s5 s7 s8.a s8.n s8.c oh pc rO A0.a A0.n A0.c Et Es h0:=iz (l:=[(0,.v),(1,.a),(2,.a),(4,.l),(5,.i .i64),(7,.i .i64),(8,.l),(10,.i .u64),(11,.i .i64),(12,.i .i64),(49,.l),(50,.i .i64),(51,.i .i64)]) (J:=J) (n0:=n0) (s0,s1,s2,s4,s5,s7,s8,oh,pc,rO,A0,Et,Es,()) hi (fun n s0 s1 s2 s4 s5 s7 s8 oh pc rO A0 Et Es g h=>Pt J1 n1 J2 n2 J n s0 s1 s2 s4 s5 s7 s8 oh pc rO A0 Et Es g h R) hr
def Ps(J1:Nat→Value→Addr→Addr→Sl→Int→Int→Hp→Prop)(n1:Nat)(J4:Nat→Value→Addr→Addr→Sl→Int→Int→Sl→Int→Int→Hp→Prop)(n4:Nat)(i:Value)(l j:Addr)(o:Sl)(p q:Int)(k:Sl)(s b:Int)(g:Nat→Value)(h:Hp)(R:RP):Prop:=bX (decide (b<s)) ((0≤b∧b<(k.n:Int))∧bE k.a fun t=>∃u:Int,cell h (t.add (b.toNat*2))=some (vu u)∧∃d:Sl,cell h ((t.add (b.toNat*2)).add 1)=some (.slice d.a d.n d.c)∧gi (h.push (.cells #[vu 0,.slice none 0 0] 102)) fun z=>St z (nb h) (vu u) fun A=>St A ((nb h).add 1) (.slice d.a d.n d.c) fun e=>∃v:Int,cell e (nb h)=some (vu v)∧∃w:Int,cell e j=some (vu w)∧bX (decide (v≥w)) (∃x:Int,cell e (nb h)=some (vu x)∧∃f:Sl,cell e ((nb h).add 1)=some (.slice f.a f.n f.c)∧ajq PG i [.agg #[vu x,.slice f.a f.n f.c]] e fun r B=>∃y:Bool,r=vb y∧FE J1 n1 J4 n4 i l j o p q k s b (!y) B R) (FE J1 n1 J4 n4 i l j o p q k s b false e R)) (∃m,m<n1∧J1 m i l j o p (wrap .i64 (q+(1:Int))) h)
abbrev aiK(J1:Nat→Value→Addr→Addr→Sl→Int→Int→Hp→Prop)(n1:Nat)(R:RP)(a:Value)(b c:Addr)(s4a:OA)(s4n s4c:Nat)(d e:Int)(aqR:OA)(aqP aqQ:Nat)(f g:Int)(h:Hp):Prop:=dO (uw PG fN pU (sub [1,1,1,1,1,0,0,1,0,0,1,1,1,0,0] (bd Tryz.f107))) (lM PG fN pU [1,1,1,1,1,0,0,1,0,0,1,1,1,0] (bd Tryz.f107) [sS (Cl J1) n1] (eJ PG Tryz.f107 [] R)) [(0,a),(1,vp (some b)),(2,vp (some c)),(4,.slice s4a s4n s4c),(5,vi d),(7,vi e),(78,.slice aqR aqP aqQ),(79,vi f),(80,vi g)] 95 h
theorem MJ {J1:Nat→Value→Addr→Addr→Sl→Int→Int→Hp→Prop}{n1:Nat}{R:RP}{s0:Value}{s1 s2:Addr}{s4:Sl}{s5 s7:Int}{Qz:Sl}{Va U9:Int}{h0:Hp}(J:Nat→Value→Addr→Addr→Sl→Int→Int→Sl→Int→Int→Hp→Prop)(n0:Nat)(hi:J n0 s0 s1 s2 s4 s5 s7 Qz Va U9 h0)(hr:∀n s0 s1 s2 s4 s5 s7 Qz Va U9 g h,J n s0 s1 s2 s4 s5 s7 Qz Va U9 h→Ps J1 n1 J n s0 s1 s2 s4 s5 s7 Qz Va U9 g h R):aiK J1 n1 R s0 s1 s2 s4.a s4.n s4.c s5 s7 Qz.a Qz.n Qz.c Va U9 h0:=iz (l:=[(0,.v),(1,.a),(2,.a),(4,.l),(5,.i .i64),(7,.i .i64),(78,.l),(79,.i .i64),(80,.i .i64)]) (J:=J) (n0:=n0) (s0,s1,s2,s4,s5,s7,Qz,Va,U9,()) hi (fun n s0 s1 s2 s4 s5 s7 Qz Va U9 g h=>Ps J1 n1 J n s0 s1 s2 s4 s5 s7 Qz Va U9 g h R) hr
def RH(g:Value)(c0 c1:Addr)(h:Hp)(R:RP):Prop:=∃i:OA,cell h c0=some (vp i)∧bE i fun t=>∃j:Int,cell h (t.add 1)=some (vi j)∧bX (j==(0:Int)) (R (vt #[]:Value) h) (∃k:OA,cell h c0=some (vp k)∧bq PG 61 #[vp k,vi 0] h fun r a=>∃l:Int,r=vu l∧gi (a.push (.cells #[vu l] 27)) fun d=>∃m:OA,cell d c0=some (vp m)∧(0≤(0:Int)∧(0:Int)<((1:Nat):Int))∧∃n:Int,cell d ((nb a).add ((0:Int).toNat*1))=some (vu n)∧bq PG 88 #[vp m,vu n] d fun r o=>∃b:Int,r=vi b∧∃p:OA,cell o c0=some (vp p)∧bq PG 61 #[vp p,vi 1] o fun r e=>∃c:Int,r=vu c∧bX (c != (0:Int)) (gi (e.push (.cells #[vu c] 27)) fun u=>im 27 1 8 #[vu 0] (some (nb a)) 1 1 (some (nb e)) 1 u fun v w x q=>∃s:OA,cell q c0=some (vp s)∧bq PG 88 #[vp s,vu c] q fun r y=>∃f:Int,r=vi f∧JH  g c0 c1 ⟨v,w,x⟩ (if f<b then f else b) y R) (JH  g c0 c1 ⟨some (nb a),1,1⟩ b e R))
theorem YF(a0:Value)(c0 c1:Addr)(h:Hp)(R:RP):aiQ PG fN pU Tryz.f107 (bd Tryz.f107) [] [a0,vp (some c0),vp (some c1)] h R=RH a0 c0 c1 h R:=by kernel_rfl
theorem MN {a0:Value}{c0 c1:Addr}{h:Hp}{R:RP}(hF:RH a0 c0 c1 h R):bq PG 107 #[a0,vp (some c0),vp (some c1)] h R :=
 zG (lv:=pU) (ik:=[]) (c:=(bd Tryz.f107)) (args:=[a0,vp (some c0),vp (some c1)]) mixed mh Tryz.func107 (by kernel_rfl) (by kernel_rfl) (by kernel_rfl) (by rw [YF];exact hF)
def afv(b c:Int)(h:Hp)(R:RP):Prop:=bq PG 155 #[vu (wrap .u64 c)] h fun r d=>∃a:Int,r=vi a∧0≤(wrap .i64 ((64:Int)-a))∧R ((vi (wrap .i64 (Int.fdiv b (2 ^ (min (wrap .i64 ((64:Int)-a)).toNat (IntKind.bits .u64))))):Value)) d
theorem YD {a0 a1:Int}{h:Hp}{R:RP}(hF:afv a0 a1 h R):bq PG 108 #[vu a0,vi a1] h R:=iY (lv:=kw) Tryz.func108 hF
def Li(m:Nat):LN:=if m=2 then [0,1,9]else []
def Pr(J1:Nat→OA→Sl→Int→Hp→Prop)(n1:Nat)(e:OA)(b:Sl)(f:Int)(g:Nat→Value)(h:Hp)(R:RP):Prop:=bX (f != (0:Int)) (bE e fun j=>∃i:OA,cell h j=some (vp i)∧bq PG 69 #[vp e,vu f,vi 1] h fun r k=>∃l:Int,r=vu l∧CP k j i∧bq PG 156 #[vp i,vu l] k fun r s=>∃d:Sl,∃t:Int,r=vt #[.slice d.a d.n d.c,vi t]∧bq PG 69 #[vp e,vu f,vi 3] s fun r o=>∃p:Int,r=vu p∧gi (o.push (.cells #[vu p,.slice d.a d.n d.c] 102)) fun u=>im 102 2 32 #[vu 0,.slice none 0 0] b.a b.n b.c (some (nb o)) 1 u fun v w x y=>bq PG 69 #[vp e,vu f,vi 0] y fun r z=>∃q:Int,r=vu q∧∃m,m<n1∧J1 m e ⟨v,w,x⟩ q z) (R (.slice b.a b.n b.c:Value) h)
abbrev aiJ(R:RP)(a s1a:OA)(s1n s1c:Nat)(b:Int)(c:Hp):Prop:=dO (kJ PG fN Li (sub [1,0,1,0,0] (bd Tryz.f109))) (dW PG fN Li [1,0,1,0] (bd Tryz.f109) [] (eJ PG Tryz.f109 [] R)) [(0,vp a),(1,.slice s1a s1n s1c),(9,vu b)] 41 c
theorem MI {R:RP}{s0:OA}{s1:Sl}{s9:Int}{h0:Hp}(J:Nat→OA→Sl→Int→Hp→Prop)(n0:Nat)(hi:J n0 s0 s1 s9 h0)(hr:∀n s0 s1 s9 g h,J n s0 s1 s9 h→Pr  J n s0 s1 s9 g h R):aiJ R s0 s1.a s1.n s1.c s9 h0:=iz (l:=[(0,.p),(1,.l),(9,.i .u64)]) (J:=J) (n0:=n0) (s0,s1,s9,()) hi (fun n s0 s1 s9 g h=>Pr  J n s0 s1 s9 g h R) hr
def afu(d:OA)(b:Sl)(f g:Int)(h:Hp)(R:RP):Prop:=bq PG 69 #[vp d,vu f,vi g] h fun r i=>∃e:Int,r=vu e∧dO (kJ PG fN Li (sub [1,0,1,0,0] (bd Tryz.f109))) (dW PG fN Li [1,0,1,0] (bd Tryz.f109) [] (eJ PG Tryz.f109 [] R)) [(0,vp d),(1,.slice b.a b.n b.c),(9,vu e)] 41 i
theorem YC {a0:OA}{a1:Sl}{a2 a3:Int}{h:Hp}{R:RP}(hF:afu a0 a1 a2 a3 h R):bq PG 109 #[vp a0,vl a1,vu a2,vi a3] h R:=iY (lv:=Li) Tryz.func109 hF
def aft(b:Sl)(d:Value)(h:Hp)(R:RP):Prop:=bq PG 157 #[.slice b.a b.n b.c,d] h fun r e=>r=vt #[]∧R (.slice b.a b.n b.c:Value) e
theorem YB {a0:Sl}{a1:Value}{h:Hp}{R:RP}(hF:aft a0 a1 h R):bq PG 110 #[vl a0,a1] h R:=iY (lv:=kw) Tryz.func110 hF
def afs(p:Int)(f:Sl)(q:Int)(g:Sl)(h:Hp)(R:RP):Prop:=gi (h.push (.cells #[vu p,.slice f.a f.n f.c] 102)) fun i=>gi (i.push (.cells #[vu q,.slice g.a g.n g.c] 102)) fun j=>∃l:Int,cell j (nb h)=some (vu l)∧∃m:Int,cell j (nb i)=some (vu m)∧bq PG 158 #[vu l,vu m] j fun r e=>∃k:Int,r=vi k∧bX (k != (0:Int)) (R (vi k:Value) e) (∃b:Sl,cell e ((nb h).add 1)=some (.slice b.a b.n b.c)∧∃d:Sl,cell e ((nb i).add 1)=some (.slice d.a d.n d.c)∧bq PG 65 #[.slice b.a b.n b.c,.slice d.a d.n d.c] e fun r s=>∃o:Int,r=vi o∧R (vi o:Value) s)
theorem YA {pF:Int}{lf:Sl}{mq:Int}{mn:Sl}{h:Hp}{R:RP}(hF:afs pF lf mq mn h R):bq PG 111 #[.agg #[vu pF,vl lf],.agg #[vu mq,vl mn]] h R:=iY (lv:=kw) Tryz.func111 hF
def JG  (b:OA) (e:Int) (h:Hp) (R:RP):Prop:=bq PG 61 #[vp b,vi 0] h fun r f=>∃a:Int,r=vu a∧bq PG 88 #[vp b,vu a] f fun r g=>∃c:Int,r=vi c∧bq PG 108 #[vu e,vi c] g fun r i=>∃d:Int,r=vi d∧R (vt #[vu a,vi d]:Value) i
def afr(a:OA)(c:Int)(h:Hp)(R:RP):Prop:=bq PG 61 #[vp a,vi 1] h fun r e=>∃b:Int,r=vu b∧bX (b != (0:Int)) (bq PG 88 #[vp a,vu b] e fun r j=>∃f:Int,r=vi f∧bq PG 108 #[vu c,vi f] j fun r k=>∃d:Int,r=vi d∧bq PG 61 #[vp a,vi 4] k fun r g=>∃i:Int,r=vu i∧bX (decide (d≥(wrap .i64 i))) (R (vt #[vu b,vi d]:Value) g) (JG  a c g R)) (JG  a c e R)
theorem Yz {a0:OA}{a1:Int}{h:Hp}{R:RP}(hF:afr a0 a1 h R):bq PG 114 #[vp a0,vu a1] h R:=iY (lv:=kw) Tryz.func114 hF
namespace RS
theorem Oy {s:RS}(v:s.Inv){l:LN}(hn:l.Nodup)(hh:∀x∈l,s.da x):l.length≤2097152:=by
 have h1:l.length≤(s.dG++s.cK).length:=B6 _ _ hn fun x hx=>(hh x hx).elim (fun h=>bW _ h) fun h=>bK _ h.2
 rw [bG]at h1
 have h2:s.dG.length≤s.fG s.dG:=by
  unfold fG
  have:∀l:LN,l.length≤(l.map s.size).sum:=fun l=>by
   induction l with
   |nil=>simp
   |cons y l ih =>
    have:0<s.size y:=by unfold size nW.size;omega
    simp only [cU,f8,dF]
    omega
  exact this _
 have h3:=v.u1;have h4:=v.u2;have h5:=v.h2;have h6:=v.l2;have h7:=v.Sp
 omega
end RS
structure ti (h:Hp) (q:HQ) (lb hn:Nat):Prop where
 row:eM h lb [vp (sa q.hb),vi (hn:Int)]
 out:q.bR lb=.out
section
variable {h h':Hp} {q q':HQ} {s:RS} {id lb hn:Nat}
theorem ti.c0(l:ti h q lb hn):cell h (ad lb)=some (vp (sa q.hb)):=(bS l.row 0).trans rfl
theorem ti.c1(l:ti h q lb hn):cell h ((ad lb).add 1)=some (vi (hn:Int)):=by rw [cm];exact(bS l.row 1).trans rfl
theorem ti.ex(l:ti h q lb hn)(x:Ex h q h' q'):ti h' q' lb hn :=
 ⟨by rw [x.1];exact bF x.gK l.row fun e=>e l.out,x.out (eE l.row) l.out⟩
theorem ti.cI(l:ti h q lb hn)(k:bY N h h'):ti h' q lb hn:=⟨bF k l.row id,l.out⟩
theorem RS.un(v:s.Inv)(hh:s.da id):s.fk id≠0:=fun e=>by
 have h1:=RS.jy v (.inr hh)
 rw [e,RS.np]at h1
 exact RS.sv v hh h1.symm
end
section
variable {h h':Hp} {q q':HQ} {s s':RS} {nd gm:List di} {b:LN}
structure wF (h:Hp) (q:HQ) (s:RS) (nd:List di) (h':Hp) (q':HQ) (s':RS) (gm:List di):Prop where
 g:Gs h' q' s' gm
 al:s'.Kh s
 rt:s'.bC=s.bC
 ex:Ex h q h' q'
 len:gm.length=nd.length
theorem wF.trans {h3:Hp}{q3:HQ}{s3:RS}{SS:List di}(a:wF h q s nd h' q' s' gm)(b:wF h' q' s' gm h3 q3 s3 SS):wF h q s nd h3 q3 s3 SS :=
 ⟨b.g,b.al.trans a.al,b.rt.trans a.rt,a.ex.trans b.ex,b.len.trans a.len⟩
theorem wF.refl(g:Gs h q s nd):wF h q s nd h q s nd:=⟨g,RS.Kh.refl _,rfl,Ex.refl _ _,rfl⟩
theorem wF.da(f:wF h q s nd h' q' s' gm){x:Nat}(hx:s.da x):s'.da x:=(f.al.da x).2 hx
theorem wF.anb(f:wF h q s nd h' q' s' gm){x:Nat}(hx:x=0∨s.da x):x=0∨s'.da x:=hx.imp_right f.da
theorem wF.fk(f:wF h q s nd h' q' s' gm)(x:Nat):s.fk x=s'.fk x:=(f.al.fk x).symm
end
section
variable {h h':Hp} {q q':HQ} {s s':RS} {nd:List di} {n:di} {id hn:Nat} {R:RP} {b:LN} {dN:LN}
theorem Gs.lt(x:Gs h q s nd)(hh:s.da id):id<nd.length:=by rw [x.sh.len];exact x.v.kz hh
theorem Gs.pos(x:Gs h q s nd):1≤nd.length:=by rw [x.sh.len];exact x.v.ob
theorem Gs.room(x:Gs h q s nd)(lv:Lv nd s.bC dN)(r w:Nat):s.zf r w↔iP s.cM (1+RS.mS nd dN) (RS.mT nd dN) (1+r+w):=RS.Hz x.v x.sh lv r w
theorem Gs.ag8(x:Gs h q s nd)(lv:Lv nd s.bC dN):∀y∈dN,y<nd.length:=fun y hy=>x.lt (x.da ((lv.S4 y).1 hy))
theorem Gs.leaf(x:Gs h q s nd)(lv:Lv nd s.bC dN){m:di}(hm:∀r∈m.cY,r=0):Lv (nd++[m]) (ix s.bC nd.length) (dN++[nd.length]):=by
 refine lv.leaf (x.ag8 lv) hm (by have:=x.pos;omega) (fun y hy=>?_) fun y hy m hm z hz=>?_
 ·rcases x.v.rt y hy with e|h
  ·have:=x.pos;omega
  ·exact x.lt h
 ·rcases RS.C3 x.v x.sh hm (x.da ((lv.S4 y).1 hy)) hz with e|h
  ·have:=x.pos;omega
  ·exact x.lt h
theorem aaF(x:Gs h q s nd){m:Nat}(hm:1≤m)(hd:s.bC.getD (m-1) none=some id)
  (hR:∀h' q' s',Gs h' q' s' nd→s'.Kh s→s'.bC=s.bC.set (m-1) none→Ex h q h' q'→R (vi 0) h') :
  qM PG 84 #[vp (sa q.hb),vi (m:Int)] h R:=by
 refine W5 (Q8 x.v x.st.rp fun h' cR G' wR ex=>?_)
 have e:=RS.WW s hm hd
 have v':=x.v.drop (m:Int)
 rw [e]at wR v' ⊢
 exact hR h' ⟨q.hb,cR,G',q.sp⟩ _ ⟨⟨wR,v'⟩,x.sh.bC _⟩ (RS.um _ _) rfl ⟨rfl,ex⟩
theorem aaU {a:Sl}(sr:Zs h q a b)(hb:b.length<140737488355328){t:TypeId}(e:h'=h.push (.cells #[.slice a.a a.n a.c] t)) (fE:∀p,a.a=some p→b≠[]→p.block<h.size) :
  ajo h' q ⟨some (nb h),1,1⟩ [a] [b]:=by
 have k:bY N h h':=e▸cF _ _ _
 have row:eM h' h.size [.slice a.a a.n a.c]:=e▸du h #[.slice a.a a.n a.c] t
 refine⟨lq row,rfl,rfl,fun i c p hc hp=>?_⟩
 cases i with
 |zero =>
  obtain rfl:=bt hc
  obtain rfl:=bt hp
  exact⟨fC k sr.rd,sr.n,sr.b8,hb,fun p hp hn=>bZ (fE p hp hn) k.1⟩
 |succ i=>cases hc
end
def Nt:LN:=[0,1,56,2,57,49,28,3,61,58,42,50,38,29,17,4,62,47,59,36,45,43,51,22,53,39,33,30,24,18,12,5,63,55,48,27,60,41,37,16,46,35,44,21,52,32,23,11,54,26,40,15,34,20,31,10,25,14,19,9,13,8,7,6]
def tzI(n:Int):Int:=Int.fdiv (wrap .u64 ((ot .u64 n (wrap .u64 (0-n)))*(285870213051353865:Int))) (2 ^ (min (58:Int).toNat (IntKind.bits .u64)))
def tzN(j:Nat):Nat:=((2 ^ j &&& (18446744073709551616-2 ^ j))*285870213051353865%18446744073709551616) / 288230376151711744
theorem af3 {j:Nat}(h:j<64):tzI ((2 ^ j:Nat):Int)=(tzN j:Int):=by
 have hp:2 ^ j<18446744073709551616:=by
  have:(2:Nat) ^ j<2 ^ 64:=nG (by omega) h
  exact bZ this (by decide)
 have h0:0<2 ^ j:=uj (by omega)
 have e1:wrap .u64 (0-((2 ^ j:Nat):Int))=((18446744073709551616-2 ^ j:Nat):Int):=by
  rw [tL]
  generalize 2 ^ j=x at *
  omega
 have hl:2 ^ j &&& (18446744073709551616-2 ^ j)≤2 ^ j:=Nat.and_le_left
 have e3:(min (58:Int).toNat (IntKind.bits .u64))=58:=by decide
 unfold tzI tzN
 rw [e1,vC hp (by omega),e3]
 generalize 2 ^ j &&& (18446744073709551616-2 ^ j)=y at *
 rw [tL]
 have e2:(y:Int)*285870213051353865%18446744073709551616=((y*285870213051353865%18446744073709551616:Nat):Int):=by omega
 rw [e2,ri]
theorem af2:((List.range 64).all fun j=>decide (tzN j<64)&&Nt.getD (tzN j) 64==j)=true:=by decide +kernel
theorem getD_some {l:LN}{k j:Nat}(hl:l.length=64)(hk:k<64)(h:l.getD k 64=j):l[k]?=some j:=by
 have fE:k<l.length:=by omega
 rw [bB,br fE]at h
 rw [br fE]
 exact congrArg some h
theorem DP:Nt.length=64:=by decide
theorem akk {j:Nat}(h:j<64):0≤tzI ((2 ^ j:Nat):Int)∧tzI ((2 ^ j:Nat):Int)<64∧Nt[(tzI ((2 ^ j:Nat):Int)).toNat]?=some j:=by
 have:=mg.1 af2 j (jQ.2 h)
 rw [eD,decide_eq_true_eq,beq_iff_eq]at this
 obtain⟨h2,h3⟩:=this
 rw [af3 h]
 have h4:=getD_some DP h2 h3
 clear h3
 generalize tzN j=k at *
 rw [bu]
 exact⟨by omega,by omega,h4⟩
def BF:Nat:=2
end Go.Ev
