/- Ranges over functions, for the evaluator: rounds, yields, the statement itself / Printed by a program (own work) out of the loaded functions: what each says of the heap, and that the evaluator says the same. No condition but that these are ones. -/
import Derived.Test.YtngcoodbepbhbaaE7
import Derived.RangeFuncRecord
import Derived.OrdersIn
import Derived.Test.YtngcoodbepbhbaaE4
set_option linter.all false
namespace Go.Ev
/-- No fence but the round that one is in. -/
def FR (ro:Option Nat):Fence:={ Fence.wide with round:=ro }
section
variable {P:Program} {ops:Array Oper} {Q:Exit→Act→World→Prop} {ro:Option Nat} {n:Nat}
theorem callsIn_FR {f:FuncId} {args:Array Value} {w:World} {R:Ending→World→Prop} (h:Calls P f args w R):CallsIn (FR ro) n P f args w R :=
 ⟨trivial,fun cs _=>let ⟨e,w',fr,r,s,x⟩:=h cs; ⟨e,w',fr,r,comesIn_wide.2 s,x⟩⟩
theorem wpInOp {o:Oper} {a:Act} {w:World} {K:Act→World→Prop} (hd:∀ c,o.op ≠ .defer c) (h:o.wp P a w K Q):o.wpIn (FR ro) n P a w K Q:=by
 refine ⟨fun _ _=>trivial,?_⟩
 rw [Oper.semAt_eq _ _ _ hd]
 unfold Oper.wp at h
 generalize (execOp a.eval o).run P w=r at h ⊢
 cases r with
 | ok x w' =>
  cases x <;> simp only [Oper.upon,Oper.uponIn] at h ⊢
  case value=>exact h
  case skip=>exact h
  case defer=>exact h
  case enter=>exact ⟨nofun,callsIn_FR h⟩
  case row=>exact ⟨nofun,fun c cs _=>let ⟨v,w',r,s⟩:=h c cs; ⟨v,w',r,stepsIn_wide.2 s⟩⟩
 | halt x w'=>cases x <;> simp only [Oper.upon,Oper.uponIn] at h ⊢ <;> exact h
theorem noDef_at (h:noDefOps ops=true) {i:Nat} {o:Oper} (ho:ops[i]?=some o):∀ c,o.op ≠ .defer c:=fun c hc=>by
 have:=List.all_eq_true.1 h o (by
  rw [← Array.getElem?_toList] at ho
  exact List.mem_of_getElem? ho)
 rw [hc] at this
 cases this
theorem wpOpIn_of (hd:noDefOps ops=true) (hQ:¬ LetsOut Q) {i:Nat} {a:Act} {w:World} {K:Act→World→Prop} (h:wpOp P ops Q i K a w):wpOpIn (FR ro) n P ops Q i K a w:=by
 unfold wpOp at h
 unfold wpOpIn
 cases ho:ops[i]? with
 | none=>simpa only [ho] using h
 | some o =>
  simp only [ho] at h ⊢
  split
  ·rename_i hw
   rw [if_pos hw] at h
   exact wpInOp (noDef_at hd ho) (h.resolve_right fun z=>hQ z.2)
  ·rename_i hw
   rw [if_neg hw] at h
   exact ⟨fun _ _=>trivial,h⟩
theorem wpOpsIn_of (hd:noDefOps ops=true) (hQ:¬ LetsOut Q):∀ (l:List Nat) (a:Act) (w:World),wpOps P ops Q l a w→wpOpsIn (FR ro) n P ops Q l a w
 | [],_,_,h=>h
 | i :: l,a,w,h=>by
  rw [wpOps_cons] at h
  rw [wpOpsIn_cons]
  exact wpOpIn_mono (fun a w=>wpOpsIn_of hd hQ l a w) (wpOpIn_of hd hQ h)
theorem wpAnyIn_of {md:Region.Mode} (hd:noDefOps ops=true) (hQ:¬ LetsOut Q):∀ (fuel:Nat) (listed:Array Bool) (a:Act) (w:World),wpAny P md ops Q fuel listed a w→wpAnyIn (FR ro) n P md ops Q fuel listed a w
 | 0,_,_,_,h=>h
 | fuel + 1,_,a,w,h=>⟨h.1,fun i hi=>wpOpIn_mono (fun a w=>wpAnyIn_of hd hQ fuel _ a w) (wpOpIn_of hd hQ (h.2 i hi))⟩
theorem wpIn_loopEv {F:Fence} {c:Code} {a:Act} {w:World} (I:Nat→Act→World→Prop) (m:Nat) (h0:I m a w)
  (round:∀ m a w,I m a w→c.wpIn F n P (Exit.then (fun a' w'=>∃ m',m' < m∧I m' a' w') Q) a w):(Code.loop c).wpIn F n P Q a w:=by
 intro b k cs hro hb hr
 have key:∀ m a w,I m a w →
   ∃ e a' w',Q e a' w'∧ArrivesIn (Machine.fenced P F) P (lone (b.atR a (.code c :: .inLoop c :: k)) cs w) b k cs e a' w':=by
  intro m
  induction m using Nat.strongRecOn with
  | _ m ih =>
   intro a w hI
   obtain ⟨e,a₁,w₁,hq,harr⟩:=round m a w hI b (.inLoop c :: k) cs hro hb hr
   cases e with
   | normal =>
    obtain ⟨m',hlt,hI₁⟩:=hq
    obtain ⟨e₂,a₂,w₂,hq₂,harr₂⟩:=ih m' hlt a₁ w₁ hI₁
    exact ⟨e₂,a₂,w₂,hq₂,.of_steps (StepsIn.trans harr (.one (fenced_calm hb hr rfl) stepR_inLoop)) harr₂⟩
   | exit id=>exact ⟨_,a₁,w₁,hq,.pass (x:=.inLoop c) rfl (fun _ _=>.inl (by simp)) harr⟩
   | goto l=>exact ⟨_,a₁,w₁,hq,.pass (x:=.inLoop c) rfl (fun _ _=>.inl (by simp)) harr⟩
   | ret=>exact ⟨_,a₁,w₁,hq,.pass (x:=.inLoop c) rfl (fun _ _=>.inl (by simp)) harr⟩
   | panic ch=>exact ⟨_,a₁,w₁,hq,.pass (x:=.inLoop c) rfl (fun _ _=>.inl (by simp)) harr⟩
   | outgrown=>exact ⟨_,a₁,w₁,hq,.pass (x:=.inLoop c) rfl (fun _ _=>.inl (by simp)) harr⟩
 obtain ⟨e,a',w',hq,harr⟩:=key m a w h0
 exact ⟨e,a',w',hq,.of_steps (.one (fenced_calm hb hr rfl) stepR_loop) harr⟩
end
section
variable {P:Program} {ops:Array Oper} {F:Fence} {n:Nat} {Q Q':Exit→Act→World→Prop}
theorem Oper.wpIn_mono2 (hq:∀ e a w,Q e a w→Q' e a w) (hQ:¬ LetsOut Q) {o:Oper} {a:Act} {w:World} {K K':Act→World→Prop} (h:∀ a w,K a w→K' a w) (hh:o.wpIn F n P a w K Q):o.wpIn F n P a w K' Q':=by
 unfold Oper.wpIn at *
 refine ⟨hh.1,?_⟩
 have hh:=hh.2
 generalize (o.semAt F.round a.eval).run P w=r at *
 cases r with
 | ok x w' =>
  cases x <;> simp only [Oper.uponIn] at hh ⊢ <;>
   first
    | exact h _ _ hh
    | exact ⟨hh.1,CallsIn.mono hh.2 (fun e w'' he=>by cases e <;> first | exact h _ _ he | exact hq _ _ _ he | exact (hQ he).elim)⟩
    | exact ⟨hh.1,RowsIn.mono hh.2 (fun _ _ he=>h _ _ he)⟩
    | exact ⟨hh.1,RoundIn.mono hh.2 (fun e w'' he=>by cases e <;> first | exact h _ _ he | exact hq _ _ _ he | exact (hQ he).elim)⟩
 | halt x w'=>cases x <;> simp only [Oper.uponIn] at hh ⊢ <;> first | exact hq _ _ _ hh | exact hh
theorem wpOpsIn_mono2 (hq:∀ e a w,Q e a w→Q' e a w) (hQ:¬ LetsOut Q):∀ (l:List Nat) (a:Act) (w:World),wpOpsIn F n P ops Q l a w→wpOpsIn F n P ops Q' l a w
 | [],_,_,h=>hq _ _ _ h
 | i :: l,a,w,h=>by
  rw [wpOpsIn_cons] at h ⊢
  unfold wpOpIn at h ⊢
  split
  ·rename_i ho
   simp only [ho] at h
   exact wpOpsIn_mono2 hq hQ l _ _ h
  ·rename_i o ho
   simp only [ho] at h
   split
   ·rename_i hw
    rw [if_pos hw] at h
    exact Oper.wpIn_mono2 hq hQ (fun a w=>wpOpsIn_mono2 hq hQ l a w) h
   ·rename_i hw
    rw [if_neg hw] at h
    exact ⟨h.1,wpOpsIn_mono2 hq hQ l _ _ h.2⟩
end
/-! ### Yields -/
/-- What a call of yield owes: a round. -/
def YieldTo (P:Program) (l:Nat) (args:List Value) (h:Hp) (R:Value→Hp→Prop):Prop :=
 ∀ w:World,w.heap=h→∃ fn tmps assign body,(Instr.yield l args.toArray).run P w=.ok (.round l fn tmps assign body) w ∧
  RoundIn Fence.wide 0 P l fn tmps assign body w fun e w'=>∃ v,e=.returned v∧Same w w'∧R v w'.heap
/-- A call of whatever a value holds, yield among them. -/
def DynY (P:Program) (v:Value) (args:List Value) (h:Hp) (R:Value→Hp→Prop):Prop :=
 Dyn P v args h R ∨ ∃ l,v=.func (.yield l) #[] #[]∧YieldTo P l args h R
/-- Whether a function's value is nil. -/
def FnNil (v:Value) (b:Bool):Prop:=(v=.nilFunc∧b=true) ∨ ∃ f a c,v=.func f a c∧b=false
def isNilFn:Operand→Bool
 | .const .nilFunc=>true
 | _=>false
def fnNilEv (P:Program) (t:TypeId) (v:Value) (h:Hp) (K:Value→Hp→Prop):Prop :=
 match P.underlying t with
 | some (.func _ _ _)=>∃ b:Bool,FnNil v b∧K (.bool b) h
 | _=>False
def evOpY (P:Program) (T:Tab) (o:Oper) (env:List Value) (h:Hp) (K:Value→Hp→Prop):Prop :=
 match o.op with
 | .binOp .eql t x y _=>if isNilFn y=true then fnNilEv P t (evalL env x) h K else evOp P T o env h K
 | .call c=>match c.callee with
  | .value f=>if isTmp f=true then DynY P (evalL env f) (c.args.toList.map (evalL env)) h (fun r h'=>resEx (T.rt o.type) fun u=>r=u∧K u h') else evOp P T o env h K
  | _=>evOp P T o env h K
 | _=>evOp P T o env h K
def evOpsY (P:Program) (T:Tab) (ops:Array Oper):List Oper→List Value→Hp→(List Value→Hp→Prop)→Prop
 | [],env,h,Q=>Q env h
 | o :: rest,env,h,Q=>evG ops o env (fun env'=>evOpY P T o env' h fun v h'=>evOpsY P T ops rest (putL env' o.dst v) h' Q)
   (fun env'=>evOpsY P T ops rest (putL env' o.dst undef) h Q)
def evCY (P:Program) (T:Tab) (lv:Nat→List Nat):Code→Kc→List Value→Hp→Prop
 | .skip,Q,env,h=>Q .normal env h
 | .ret,Q,env,h=>Q .ret env h
 | .exit id,Q,env,h=>Q (.exit id) env h
 | .seq a b,Q,env,h=>evCY P T lv a (seqK (evCY P T lv b Q) Q) env h
 | .cond c a b,Q,env,h=>match evalL env c with
  | .bool t=>Cond t (evCY P T lv a Q env h) (evCY P T lv b Q env h)
  | _=>False
 | .block id c,Q,env,h=>evCY P T lv c (blockK id Q) env h
 | .loop c,Q,env,h=>LoopEv (evCY P T lv c) Q (pairsOf (lv (firstR c)) env) env.length h
 | .region id ops draw,Q,env,h=>if draw=true then evC P T lv (.region id ops draw) Q env h else evOpsY P T ops ops.toList env h (Q .normal)
 | _,_,_,_=>False
/-- No deferred call in any region. -/
def noDef:Code→Bool
 | .seq a b=>noDef a && noDef b
 | .cond _ a b=>noDef a && noDef b
 | .block _ c=>noDef c
 | .loop c=>noDef c
 | .region _ ops _=>noDefOps ops
 | _=>true
section
variable {P:Program} {T:Tab} {D:List Deferred} {w0:World} {ro:Option Nat} {n:Nat}
theorem lift_noOut {Q:Kc}:¬ LetsOut (lift D w0 Q):=fun ⟨_,_,_,_,_,h⟩=>h
/-- Code in a round (or not) is as the evaluator says. -/
theorem evC_soundIn {lv:Nat→List Nat} (hm:P.follows .mixedOrders=true) (hT:TabOk P T):∀ (c:Code),noSel c=true→noDef c=true→∀ (Q:Kc) (env:List Value) (w:World),Same w0 w→evC P T lv c Q env w.heap →
  c.wpIn (FR ro) n P (lift D w0 Q) (actL env D) w:=by
 intro c
 induction c with
 | skip=>exact fun _ _ Q env w hs h=>wpIn_skip ⟨hs,env,rfl,h⟩
 | ret=>exact fun _ _ Q env w hs h=>wpIn_ret ⟨hs,env,rfl,h⟩
 | exit id=>exact fun _ _ Q env w hs h=>wpIn_exit ⟨hs,env,rfl,h⟩
 | seq a b iha ihb =>
  intro hn hd Q env w hs h
  simp only [noSel,noDef,Bool.and_eq_true] at hn hd
  refine wpIn_seq (wpIn_mono (iha hn.1 hd.1 _ env w hs h) fun e a' w' hl=>?_)
  obtain ⟨hs',env',rfl,hl⟩:=hl
  cases e <;> first | exact hl.elim | exact ⟨hs',env',rfl,hl⟩ | exact ihb hn.2 hd.2 Q env' w' hs' hl
 | cond c a b iha ihb =>
  intro hn hd Q env w hs h
  simp only [noSel,noDef,Bool.and_eq_true] at hn hd
  unfold evC at h
  split at h
  ·rename_i t hc
   have hc':(actL env D).eval c=.bool t:=by rw [eval_actL]; exact hc
   rcases h.split with ⟨rfl,hx⟩ | ⟨rfl,hx⟩
   ·exact wpIn_cond_true hc' (iha hn.1 hd.1 Q env w hs hx)
   ·exact wpIn_cond_false hc' (ihb hn.2 hd.2 Q env w hs hx)
  ·exact h.elim
 | block id c ih =>
  intro hn hd Q env w hs h
  refine wpIn_block (wpIn_mono (ih hn hd _ env w hs h) fun e a' w' hl=>?_)
  obtain ⟨hs',env',rfl,hl⟩:=hl
  cases e with
  | exit id' =>
   show if id'=id then _ else _
   simp only [blockK] at hl
   split at hl
   ·rename_i hid; rw [if_pos hid]; exact ⟨hs',env',rfl,hl⟩
   ·rename_i hid; rw [if_neg hid]; exact ⟨hs',env',rfl,hl⟩
  | _=>first | exact hl.elim | exact ⟨hs',env',rfl,hl⟩
 | loop c ih =>
  intro hn hd Q env w hs h
  obtain ⟨I,m,hg,round⟩:=h
  have h0:I m env w.heap:=by
   have:=hg fun k=>env.getD k undef
   have e:mkEnv env.length (pairsOf (lv (firstR c)) env) (fun k=>env.getD k undef)=env:=mkEnv_self _ _
   rwa [e] at this
  refine wpIn_loopEv (fun m a w=>Same w0 w∧∃ env,a=actL env D∧I m env w.heap) m ⟨hs,env,rfl,h0⟩ fun m a w hI=>?_
  obtain ⟨hs',env',rfl,hI⟩:=hI
  refine wpIn_mono (ih hn hd _ env' w hs' (round m env' w.heap hI)) fun e a' w' hl=>?_
  obtain ⟨hs'',env'',rfl,hl⟩:=hl
  cases e <;> first | exact hl.elim | exact ⟨hs'',env'',rfl,hl⟩ | (obtain ⟨m',hlt,hm'⟩:=hl; exact ⟨m',hlt,hs'',env'',rfl,hm'⟩)
 | region id ops draw =>
  intro hn hd Q env w hs h
  unfold evC at h
  cases draw with
  | false =>
   simp only [Bool.false_eq_true,if_false] at h
   refine wpIn_region (wpOpsIn_of hd lift_noOut _ _ _ ?_)
   have:=evOps_sound (P:=P) (D:=D) (w0:=w0) hT (ops:=ops) ops.toList 0 env w (fun i=>by simp) hs h
   rw [Array.length_toList] at this
   rwa [List.range_eq_range']
  | true =>
   simp only [if_true] at h
   have hsel:Region.noSelect ops=true:=by simpa [noSel] using hn
   refine wpIn_region_any hm (wpAnyIn_of hd lift_noOut _ _ _ _ ?_)
   exact wpAny_of_P ops.size [] _ _ { w with drawn:=w.drawn + 1 } ⟨hs.1,hs.2.1,hs.2.2⟩ (evR_sound hT hsel ops.size [] _ env w.heap (fun p hp=>by cases hp) h)
 | _=>exact fun _ _ Q env w hs h=>h.elim
/-! ### A round -/
/-- The record at a round's end. -/
def EndR (l:Nat) (R:Value→Hp→Prop) (j:Option Code) (h:Hp):Prop :=
 ∃ r:Loop,h[l]?=some (.loop r)∧R (.bool j.isNone) (h.setIfInBounds l (.loop { r with state:=if j.isNone then .ready else .done,pending:=j }))
def roundK (l:Nat) (R:Value→Hp→Prop):Kc
 | .normal,_,h=>EndR l R none h
 | .ret,_,h=>EndR l R (some .ret) h
 | .exit id,_,h=>EndR l R (some (.exit id)) h
 | _,_,_=>False
def startK (P:Program) (T:Tab) (lv:Nat→List Nat) (l:Nat) (body:Code) (R:Value→Hp→Prop):Kc
 | .normal,env,h=>∃ r:Loop,h[l]?=some (.loop r)∧r.state=.ready∧evC P T lv body (roundK l R) env (h.setIfInBounds l (.loop { r with state:=.busy }))
 | _,_,_=>False
/-- A round, from the record's temporaries with yield's arguments put in. -/
def RoundEv (P:Program) (T:Tab) (lv:Nat→List Nat) (l:Nat) (assign body:Code) (env:List Value) (h:Hp) (R:Value→Hp→Prop):Prop :=
 evC P T lv assign (startK P T lv l body R) env h
theorem same_putObj {w:World} {l:Nat} {o:Obj}:Same w (w.putObj l o):=⟨rfl,rfl,rfl⟩
theorem yieldTo_of {lv:Nat→List Nat} (hm:P.follows .mixedOrders=true) (hT:TabOk P T) {l:Nat} {r:Loop} {args:List Value} {h:Hp} {R:Value→Hp→Prop} {env:List Value} (hl:h[l]?=some (.loop r)) (hs:args.toArray.size=r.params.size)
  (he:(r.params.zip args.toArray).foldl (fun tmps (t,a)=>tmps.setIfInBounds t a) r.tmps=env.toArray) (n1:noSel r.assign=true) (n2:noSel r.body=true) (d1:noDef r.assign=true) (d2:noDef r.body=true)
  (hr:RoundEv P T lv l r.assign r.body env h R):YieldTo P l args h R:=by
 intro w hw
 subst hw
 refine ⟨r.fn,env.toArray,r.assign,r.body,?_,?_⟩
 ·rw [← he]; exact run_yield hl hs
 refine roundIn_of_wpIn (F:=Fence.wide) trivial ?_
 have key:=evC_soundIn (P:=P) (T:=T) (D:=[]) (w0:=w) (ro:=some l) (n:=0) hm hT r.assign n1 d1 _ env w (Same.refl _) hr
 refine wpIn_mono key fun e a' w' hx=>?_
 obtain ⟨hs',env',rfl,hx⟩:=hx
 cases e <;> first | exact hx.elim | skip
 obtain ⟨r1,h1,hready,hx⟩:=hx
 refine ⟨w'.putObj l (.loop { r1 with state:=.busy }),run_beginRound h1 hready,?_⟩
 have key2:=evC_soundIn (P:=P) (T:=T) (D:=[]) (w0:=w) (ro:=some l) (n:=0) hm hT r.body n2 d2 _ env' (w'.putObj l (.loop { r1 with state:=.busy })) (hs'.trans same_putObj) hx
 refine wpIn_mono key2 fun e a2 w2 hy=>?_
 obtain ⟨hs2,env2,rfl,hy⟩:=hy
 cases e <;> first | exact hy.elim | skip
 all_goals
  obtain ⟨r2,h2,hy⟩:=hy
  exact ⟨_,_,run_endRound _ h2,_,rfl,hs2.trans same_putObj,hy⟩
/-! ### Code that yields -/
theorem run_callYield {o:Oper} {c:Call} {f:Operand} {env:List Value} {l:Nat} (hop:o.op=.call c) (hf:c.callee=.value f) (hv:evalL env f=.func (.yield l) #[] #[]) (w:World) :
  (execOp (evalL env) o).run P w=(Instr.yield l (c.args.toList.map (evalL env)).toArray).run P w:=by
 have ha:(#[]:Array Value) ++ c.args.map (evalL env)=(c.args.toList.map (evalL env)).toArray:=by
  apply Array.ext'
  simp
 simp only [execOp,hop,run_bind,resolve,hf,hv,Deferred.ofValue,run_pure,invoke,ha]
theorem fnNil_run {t:TypeId} {x y:Operand} {v:Value} {b:Bool} {ps rs:Array TypeId} {vd:Bool} (ht:P.underlying t=some (.func ps rs vd)) (hb:FnNil v b) (w:World) :
  (do eqGuard .eql t x y v .nilFunc; binOp .eql t v .nilFunc:Sem Value).run P w=.ok (.bool b) w:=by
 have hs:(Op.equal t v .nilFunc).run P w=.ok b w:=by
  rcases hb with ⟨rfl,rfl⟩ | ⟨f,a,c,rfl,rfl⟩
  ·unfold Op.equal
   rw [show Op.maxDepth=9999 + 1 from rfl,Op.equalIn.eq_def]
   simp only []
   rw [run_bind,run_underlying ht]
   rfl
  ·unfold Op.equal
   rw [show Op.maxDepth=9999 + 1 from rfl,Op.equalIn.eq_def]
   simp only []
   rw [run_bind,run_underlying ht]
   rfl
 have hg:(eqGuard .eql t x y v .nilFunc).run P w=.ok () w:=by
  rcases hb with ⟨rfl,rfl⟩ | ⟨f,a,c,rfl,rfl⟩ <;> rfl
 have e:binOp .eql t v .nilFunc=(do pure (.bool (← Op.equal t v .nilFunc)):Sem Value):=by
  rcases hb with ⟨rfl,rfl⟩ | ⟨f,a,c,rfl,rfl⟩ <;> rfl
 have hb2:(binOp .eql t v .nilFunc).run P w=.ok (.bool b) w:=by
  rw [e,run_bind,hs]
  rfl
 rw [run_bind,hg]
 exact hb2
theorem evOpY_sound (hT:TabOk P T) {o:Oper} {env:List Value} {w:World} {K:Value→Hp→Prop} (h:evOpY P T o env w.heap K) :
  OpOk P o env w K ∨ ∃ l args,(∀ w':World,(execOp (evalL env) o).run P w'=(Instr.yield l (List.toArray args)).run P w')∧(∀ c,o.op ≠ .defer c)∧YieldTo P l args w.heap K:=by
 unfold evOpY at h
 split at h
 ·rename_i t x y u hop
  split at h
  ·rename_i hy
   have ey:y=.const .nilFunc:=by
    unfold isNilFn at hy
    split at hy
    ·rfl
    ·cases hy
   subst ey
   unfold fnNilEv at h
   split at h
   ·rename_i ps rs vd ht
    obtain ⟨b,hb,hk⟩:=h
    refine .inl (.inl ⟨.bool b,w,.inl ?_,Same.refl _,hk⟩)
    have e1:=fnNil_run (x:=x) (y:=.const .nilFunc) ht hb w
    simp only [execOp,hop,Next.value]
    show (do let v ← (do eqGuard .eql t x (.const .nilFunc) (evalL env x) .nilFunc; binOp .eql t (evalL env x) .nilFunc:Sem Value); pure (Next.value v):Sem Next).run P w=_
    rw [run_bind,e1]
    rfl
   ·exact h.elim
  ·exact .inl (evOp_sound hT h)
 ·rename_i c hop
  split at h
  ·rename_i f hf
   split at h
   ·rename_i ht
    rcases h with h | ⟨l,hv,h⟩
    ·refine .inl (evOp_sound hT ?_)
     unfold evOp
     simp only [hop,hf,if_pos ht]
     exact h
    ·refine .inr ⟨l,_,run_callYield hop hf hv,(fun c' hc'=>by rw [hop] at hc'; cases hc'),fun w' hw'=>?_⟩
     obtain ⟨fn,tmps,assign,body,h1,h2⟩:=h w' hw'
     refine ⟨fn,tmps,assign,body,h1,h2.mono fun e w2 ⟨v,he,hs,hr⟩=>?_⟩
     obtain ⟨u,hu,hk⟩:=resEx_some hr
     exact ⟨v,he,hs,hu ▸ hk⟩
   ·exact .inl (evOp_sound hT h)
  ·exact .inl (evOp_sound hT h)
 ·exact .inl (evOp_sound hT h)
theorem evOpsY_sound (hT:TabOk P T) {ops:Array Oper} (hd:noDefOps ops=true) {Q:Kc}:∀ (l:List Oper) (k:Nat) (env:List Value) (w:World),(∀ i,l[i]?=ops[k + i]?)→Same w0 w →
  evOpsY P T ops l env w.heap (Q .normal)→wpOpsIn Fence.wide n P ops (lift D w0 Q) (List.range' k l.length) (actL env D) w:=by
 intro l
 induction l with
 | nil=>intro k env w _ hs h; exact ⟨hs,env,rfl,h⟩
 | cons o rest ih =>
  intro k env w hl hs h
  have ho:ops[k]?=some o:=by have:=hl 0; simpa using this.symm
  have hl':∀ i,rest[i]?=ops[k + 1 + i]?:=fun i=>by have:=hl (i + 1); rw [show k + (i + 1)=k + 1 + i by omega] at this; simpa using this
  rw [List.length_cons,List.range'_succ,wpOpsIn_cons]
  unfold wpOpIn
  simp only [ho]
  have e:(actL env D).tmps=env.toArray:=rfl
  rw [e]
  unfold evOpsY at h
  rcases evG_sound h with ⟨hw,h⟩ | ⟨hw,h⟩
  ·rw [if_pos hw]
   rcases evOpY_sound hT h with h | ⟨yl,args,hrun,hnd,hy⟩
   ·exact wpInOp (ro:=none) (noDef_at hd ho) (OpOk.wp hs h fun v w' hs' hk=>ih (k + 1) _ w' hl' hs' hk)
   ·obtain ⟨fn,tmps,assign,body,h1,h2⟩:=hy w rfl
    refine ⟨fun _ _=>trivial,?_⟩
    rw [Oper.semAt_eq _ _ _ hnd,eval_actL,hrun,h1,Oper.uponIn_round]
    refine ⟨nofun,h2.1,fun c cs _=>?_⟩
    obtain ⟨e,w',⟨v,he,hs',hk⟩,hst⟩:=h2.2 c cs (room_wide _)
    subst he
    refine ⟨.returned v,w',?_,hst⟩
    show wpOpsIn Fence.wide n P ops (lift D w0 Q) _ ((actL env D).put o.dst v) w'
    rw [put_actL]
    exact ih (k + 1) _ w' hl' (hs.trans hs') hk
  ·rw [hw]
   simp only [Bool.false_eq_true,if_false]
   rw [put_actL]
   exact ⟨fun _ _=>trivial,ih (k + 1) _ w hl' hs h⟩
theorem evCY_sound {lv:Nat→List Nat} (hm:P.follows .mixedOrders=true) (hT:TabOk P T):∀ (c:Code),noSel c=true→noDef c=true→∀ (Q:Kc) (env:List Value) (w:World),Same w0 w→evCY P T lv c Q env w.heap →
  c.wpIn Fence.wide n P (lift D w0 Q) (actL env D) w:=by
 intro c
 induction c with
 | skip=>exact fun _ _ Q env w hs h=>wpIn_skip ⟨hs,env,rfl,h⟩
 | ret=>exact fun _ _ Q env w hs h=>wpIn_ret ⟨hs,env,rfl,h⟩
 | exit id=>exact fun _ _ Q env w hs h=>wpIn_exit ⟨hs,env,rfl,h⟩
 | seq a b iha ihb =>
  intro hn hd Q env w hs h
  simp only [noSel,noDef,Bool.and_eq_true] at hn hd
  refine wpIn_seq (wpIn_mono (iha hn.1 hd.1 _ env w hs h) fun e a' w' hl=>?_)
  obtain ⟨hs',env',rfl,hl⟩:=hl
  cases e <;> first | exact hl.elim | exact ⟨hs',env',rfl,hl⟩ | exact ihb hn.2 hd.2 Q env' w' hs' hl
 | cond c a b iha ihb =>
  intro hn hd Q env w hs h
  simp only [noSel,noDef,Bool.and_eq_true] at hn hd
  unfold evCY at h
  split at h
  ·rename_i t hc
   have hc':(actL env D).eval c=.bool t:=by rw [eval_actL]; exact hc
   rcases h.split with ⟨rfl,hx⟩ | ⟨rfl,hx⟩
   ·exact wpIn_cond_true hc' (iha hn.1 hd.1 Q env w hs hx)
   ·exact wpIn_cond_false hc' (ihb hn.2 hd.2 Q env w hs hx)
  ·exact h.elim
 | block id c ih =>
  intro hn hd Q env w hs h
  refine wpIn_block (wpIn_mono (ih hn hd _ env w hs h) fun e a' w' hl=>?_)
  obtain ⟨hs',env',rfl,hl⟩:=hl
  cases e with
  | exit id' =>
   show if id'=id then _ else _
   simp only [blockK] at hl
   split at hl
   ·rename_i hid; rw [if_pos hid]; exact ⟨hs',env',rfl,hl⟩
   ·rename_i hid; rw [if_neg hid]; exact ⟨hs',env',rfl,hl⟩
  | _=>first | exact hl.elim | exact ⟨hs',env',rfl,hl⟩
 | loop c ih =>
  intro hn hd Q env w hs h
  obtain ⟨I,m,hg,round⟩:=h
  have h0:I m env w.heap:=by
   have:=hg fun k=>env.getD k undef
   have e:mkEnv env.length (pairsOf (lv (firstR c)) env) (fun k=>env.getD k undef)=env:=mkEnv_self _ _
   rwa [e] at this
  refine wpIn_loopEv (fun m a w=>Same w0 w∧∃ env,a=actL env D∧I m env w.heap) m ⟨hs,env,rfl,h0⟩ fun m a w hI=>?_
  obtain ⟨hs',env',rfl,hI⟩:=hI
  refine wpIn_mono (ih hn hd _ env' w hs' (round m env' w.heap hI)) fun e a' w' hl=>?_
  obtain ⟨hs'',env'',rfl,hl⟩:=hl
  cases e <;> first | exact hl.elim | exact ⟨hs'',env'',rfl,hl⟩ | (obtain ⟨m',hlt,hm'⟩:=hl; exact ⟨m',hlt,hs'',env'',rfl,hm'⟩)
 | region id ops draw =>
  intro hn hd Q env w hs h
  unfold evCY at h
  cases draw with
  | false =>
   simp only [Bool.false_eq_true,if_false] at h
   refine wpIn_region ?_
   have:=evOpsY_sound (P:=P) (D:=D) (w0:=w0) (n:=n) hT (ops:=ops) hd ops.toList 0 env w (fun i=>by simp) hs h
   rw [Array.length_toList] at this
   rwa [List.range_eq_range']
  | true =>
   simp only [if_true] at h
   exact evC_soundIn (ro:=none) hm hT (.region id ops true) hn hd Q env w hs h
 | _=>exact fun _ _ Q env w hs h=>h.elim
def evFY (P:Program) (T:Tab) (lv:Nat→List Nat) (fn:Func) (c:Code) (hints:List VK) (args:List Value) (h:Hp) (R:Value→Hp→Prop):Prop :=
 evCY P T lv c (bodyK P fn hints R) (envOf fn args) h
theorem callTo_of_evY {lv:Nat→List Nat} (hm:P.follows .mixedOrders=true) (hT:TabOk P T) {f:FuncId} {fn:Func} {c:Code} {hints:List VK} {args:List Value} {h:Hp} {R:Value→Hp→Prop} (hf:P.funcs[f]?=some fn) (hb:fn.body=some c)
  (hn:noSel c=true) (hd:noDef c=true) (he:evFY P T lv fn c hints args h R):CallTo P f args.toArray h R:=by
 intro w hw
 subst hw
 refine (callsIn_wide (n:=0)).1 (callsIn_of_wp hf hb trivial ?_)
 have key:=evCY_sound (D:=[]) (w0:=w) (n:=0) hm hT c hn hd _ _ w (Same.refl _) he
 have e:({ tmps:=args.toArray ++ Array.replicate (fn.ntmps - args.toArray.size) undef,defers:=[] }:Act)=actL (envOf fn args) []:=by
  unfold actL envOf
  congr 1
  apply Array.ext'
  simp
 rw [e]
 refine wpIn_mono key fun e a w' hl=>?_
 obtain ⟨hs,env,rfl,hl⟩:=hl
 cases e <;> first | exact hl.elim | skip
 all_goals
  obtain ⟨v,vs,hr,hk⟩:=rdSem_sound _ _ _ _ hl
  exact ⟨rfl,v,hr,v,rfl,hs,hk⟩
/-! ### The statement -/
/-- The record of a range over a function. -/
def recL (fn:FuncId) (tmps:List Value) (ps:Array Tmp) (assign body:Code) (b:Nat) (st:LoopState) (pend:Option Code):Loop :=
 {state:=st,pending:=pend,fn,tmps:=tmps.toArray,params:=ps,assign,body,defers:=b }
/-- A range over the function that a value holds: the block for what rounds defer, the record; the call; the pending jump. -/
def RangeEv (P:Program) (T:Tab) (v:Value) (ps:Array Tmp) (assign body:Code) (l:List (Nat × Value)) (N:Nat) (h:Hp) (K:Option Code→Hp→Prop):Prop :=
 ∃ g first cap,v=.func (.func g) first cap∧Callable P g∧∀ (fn:FuncId) (gl:Nat→Value),
  CallTo P g (first.toList ++ [Value.func (.yield (h.size + 1)) #[] #[]] ++ cap.toList).toArray ((h.push (.deferred (some []))).push (.loop (recL fn (mkEnv N l gl) ps assign body h.size .ready none))) fun _ h' =>
   ∃ st pend,h'[h.size + 1]?=some (.loop (recL fn (mkEnv N l gl) ps assign body h.size st pend))∧st ≠ .busy∧K pend (h'.setIfInBounds (h.size + 1) (.loop (recL fn (mkEnv N l gl) ps assign body h.size .exhausted pend)))
/-- Behind the range: on; or the jump that a round has left. -/
def AfterJ (kn kr:Hp→Prop) (ke:Nat→Hp→Prop):Option Code→Hp→Prop
 | none,h=>kn h
 | some .ret,h=>kr h
 | some (.exit id),h=>ke id h
 | _,_=>False
def afterR (Q:KcD) (D:List Deferred) (env:List Value):Option Code→Hp→Prop:=AfterJ (Q .normal D env) (Q .ret D env) fun id=>Q (.exit id) D env
def rfA:Code→Code
 | .rangeFunc _ _ a _=>a
 | c=>c
def rfB:Code→Code
 | .rangeFunc _ _ _ b=>b
 | c=>c
def contAtY (P:Program) (T:Tab) (lv:Nat→List Nat):List Nat→Code→List (Kc→Kc)→Kc→Kc
 | [],_,_,Q=>Q
 | 0 :: π,.seq a b,lk,Q=>contAtY P T lv π a lk (seqK (evCY P T lv b Q) Q)
 | _ :: π,.seq _ b,lk,Q=>contAtY P T lv π b lk Q
 | 0 :: π,.cond _ a _,lk,Q=>contAtY P T lv π a lk Q
 | _ :: π,.cond _ _ b,lk,Q=>contAtY P T lv π b lk Q
 | _ :: π,.block id c,lk,Q=>contAtY P T lv π c lk (blockK id Q)
 | _ :: π,.loop c,k :: lk,Q=>contAtY P T lv π c lk (k Q)
 | _,_,_,Q=>Q
def evCM (P:Program) (T:Tab) (lv:Nat→List Nat):Code→KcD→List Deferred→List Value→Hp→Prop
 | .seq a b,Q,D,env,h=>evCM P T lv a (seqKD (evCM P T lv b Q) Q) D env h
 | .cond c a b,Q,D,env,h=>match evalL env c with
  | .bool t=>Cond t (evCM P T lv a Q D env h) (evCM P T lv b Q D env h)
  | _=>False
 | .block id c,Q,D,env,h=>evCM P T lv c (blockKD id Q) D env h
 | .region id ops draw,Q,D,env,h=>if draw=true then evC P T lv (.region id ops draw) (withD Q D) env h else evOpsY P T ops ops.toList env h (withD Q D .normal)
 | .skip,Q,D,env,h=>Q .normal D env h
 | .ret,Q,D,env,h=>Q .ret D env h
 | .exit id,Q,D,env,h=>Q (.exit id) D env h
 | .loop c,Q,D,env,h=>evC P T lv (.loop c) (withD Q D) env h
 | .rangeFunc g ps assign body,Q,D,env,h=>RangeEv P T (evalL env g) ps assign body (pairsOf (lv (firstR assign)) env) env.length h (afterR Q ({ target:=.collected h.size,args:=#[] } :: D) env)
 | _,_,_,_,_=>False
theorem evCM_sound {lv:Nat→List Nat} (hm:P.follows .mixedOrders=true) (hT:TabOk P T):∀ (c:Code),noSel c=true→noDef c=true→∀ (Q:KcD) (D:List Deferred) (env:List Value) (w:World),Same w0 w →
  evCM P T lv c Q D env w.heap→c.wp P (liftD w0 Q) (actL env D) w:=by
 intro c
 induction c with
 | skip=>exact fun _ _ Q D env w hs h=>wp_skip ⟨hs,D,env,rfl,h⟩
 | ret=>exact fun _ _ Q D env w hs h=>wp_ret ⟨hs,D,env,rfl,h⟩
 | exit id=>exact fun _ _ Q D env w hs h=>wp_exit ⟨hs,D,env,rfl,h⟩
 | seq a b iha ihb =>
  intro hn hd Q D env w hs h
  simp only [noSel,noDef,Bool.and_eq_true] at hn hd
  refine wp_seq (wp_mono (iha hn.1 hd.1 _ D env w hs h) fun e a' w' hl=>?_)
  obtain ⟨hs',D',env',rfl,hl⟩:=hl
  cases e <;> first | exact hl.elim | exact ⟨hs',D',env',rfl,hl⟩ | exact ihb hn.2 hd.2 Q D' env' w' hs' hl
 | cond c a b iha ihb =>
  intro hn hd Q D env w hs h
  simp only [noSel,noDef,Bool.and_eq_true] at hn hd
  unfold evCM at h
  split at h
  ·rename_i t hc
   have hc':(actL env D).eval c=.bool t:=by rw [eval_actL]; exact hc
   rcases h.split with ⟨rfl,hx⟩ | ⟨rfl,hx⟩
   ·exact wp_cond_true hc' (iha hn.1 hd.1 Q D env w hs hx)
   ·exact wp_cond_false hc' (ihb hn.2 hd.2 Q D env w hs hx)
  ·exact h.elim
 | block id c ih =>
  intro hn hd Q D env w hs h
  refine wp_block (wp_mono (ih hn hd _ D env w hs h) fun e a' w' hl=>?_)
  obtain ⟨hs',D',env',rfl,hl⟩:=hl
  cases e with
  | exit id' =>
   show if id'=id then _ else _
   simp only [blockKD] at hl
   split at hl
   ·rename_i hid; rw [if_pos hid]; exact ⟨hs',D',env',rfl,hl⟩
   ·rename_i hid; rw [if_neg hid]; exact ⟨hs',D',env',rfl,hl⟩
  | _=>first | exact hl.elim | exact ⟨hs',D',env',rfl,hl⟩
 | loop c ih =>
  intro hn hd Q D env w hs h
  exact wp_mono (evC_sound (D:=D) hm hT (.loop c) hn (withD Q D) env w hs h) fun e a' w' hl=>lift_withD hl
 | region id ops draw =>
  intro hn hd Q D env w hs h
  unfold evCM at h
  cases draw with
  | false =>
   simp only [Bool.false_eq_true,if_false] at h
   refine (wpIn_wide (n:=0)).1 (wpIn_region ?_)
   have:=evOpsY_sound (P:=P) (D:=D) (w0:=w0) (n:=0) (Q:=withD Q D) hT (ops:=ops) hd ops.toList 0 env w (fun i=>by simp) hs h
   rw [Array.length_toList,← List.range_eq_range'] at this
   exact wpOpsIn_mono2 (fun e a' w' hl=>lift_withD hl) (fun ⟨_,_,_,_,_,h⟩=>h) _ _ _ this
  | true =>
   simp only [if_true] at h
   exact wp_mono (evC_sound (D:=D) hm hT (.region id ops true) hn (withD Q D) env w hs h) fun e a' w' hl=>lift_withD hl
 | rangeFunc g ps assign body _ _ =>
  intro hn hd Q D env w hs h
  refine (wpIn_wide (n:=0)).1 (wpIn_rangeFunc (F:=Fence.wide) fun fn _=>?_)
  obtain ⟨f,first,cap,hv,hcal,hcall⟩:=h
  have eenv:mkEnv env.length (pairsOf (lv (firstR assign)) env) (fun k=>env.getD k undef)=env:=mkEnv_self _ _
  have hcall:=hcall fn fun k=>env.getD k undef
  rw [eenv] at hcall
  let w1:World:=(w.alloc (.deferred (some []))).alloc (.loop (recL fn env ps assign body w.heap.size .ready none))
  have hev:(actL env D).eval g=.func (.func f) first cap:=by rw [eval_actL]; exact hv
  refine ⟨w.heap.size + 1,[{ target:=.collected w.heap.size,args:=#[] }],w1,{ target:=.fn (.func f) cap,args:=first ++ #[Value.func (.yield (w.heap.size + 1)) #[] #[]] },w1,f,(first.toList ++ [Value.func (.yield (w.heap.size + 1)) #[] #[]] ++ cap.toList).toArray,w1,run_enterLoop_outer ..,?_,fun _ _=>trivial,?_,nofun,?_⟩
  ·simp only [resolve,hev,Deferred.ofValue,run_pure,List.map_toArray,List.map_cons,List.map_nil]
   rfl
  ·have:=hcal (first ++ #[Value.func (.yield (w.heap.size + 1)) #[] #[]] ++ cap) w1
   simp only [invoke]
   rw [this]
   congr 2
   apply Array.ext'
   simp
  ·refine callsIn_wide.2 ((hcall w1 rfl).mono fun e w3 ⟨v,he,hs3,st,pend,hl,hb,hk⟩=>?_)
   subst he
   have s3:Same w0 (w3.putObj (w.heap.size + 1) (.loop (recL fn env ps assign body w.heap.size .exhausted pend))):=(hs.trans ⟨rfl,rfl,rfl⟩:Same w0 w1).trans (hs3.trans same_putObj)
   refine ⟨pend,w3.putObj (w.heap.size + 1) (.loop (recL fn env ps assign body w.heap.size .exhausted pend)),run_endLoop hl hb,?_⟩
   cases pend with
   | none=>exact ⟨s3,_,env,rfl,hk⟩
   | some j =>
    cases j <;> first | exact hk.elim | skip
    ·exact wpIn_exit ⟨s3,_,env,rfl,hk⟩
    ·exact wpIn_ret ⟨s3,_,env,rfl,hk⟩
 | _=>exact fun _ _ Q D env w hs h=>h.elim
/-- Behind the text: the blocks for what rounds have deferred are shut; then the results. -/
def leaveM (P:Program) (fn:Func) (hints:List VK) (R:Value→Hp→Prop):List Deferred→List Value→Hp→Prop
 | [],env,h=>rdSem P (results fn env.toArray) hints h fun v _=>R v h
 | d :: ds,env,h=>match d.target with
  | .collected r=>h[r]?=some (.deferred (some []))∧leaveM P fn hints R ds env (h.setIfInBounds r (.deferred none))
  | _=>False
theorem leaveM_sound {fn:Func} {hints:List VK} {R:Value→Hp→Prop}:∀ (D:List Deferred) (env:List Value) (w:World),Same w0 w→leaveM P fn hints R D env w.heap →
  LeavesInM Fence.wide 0 P fn env.toArray (fun e w'=>∃ v,e=.returned v∧Same w0 w'∧R v w'.heap) D .returning w:=by
 intro D
 induction D with
 | nil =>
  intro env w hs h
  obtain ⟨v,vs,hr,hk⟩:=rdSem_sound _ _ _ _ h
  exact ⟨v,hr,v,rfl,hs,hk⟩
 | cons d ds ih =>
  intro env w hs h
  unfold leaveM at h
  split at h
  ·rename_i r htar
   exact ⟨nofun,.inl ⟨r,_,htar,run_takeDeferred h.1,ih env _ (hs.trans same_putObj) h.2⟩⟩
  ·exact h.elim
def bodyKM (P:Program) (fn:Func) (hints:List VK) (R:Value→Hp→Prop):KcD
 | .normal,D,env,h=>leaveM P fn hints R D env h
 | .ret,D,env,h=>leaveM P fn hints R D env h
 | _,_,_,_=>False
def evFM (P:Program) (T:Tab) (lv:Nat→List Nat) (fn:Func) (c:Code) (hints:List VK) (args:List Value) (h:Hp) (R:Value→Hp→Prop):Prop :=
 evCM P T lv c (bodyKM P fn hints R) [] (envOf fn args) h
theorem callTo_of_evM {lv:Nat→List Nat} (hm:P.follows .mixedOrders=true) (hT:TabOk P T) {f:FuncId} {fn:Func} {c:Code} {hints:List VK} {args:List Value} {h:Hp} {R:Value→Hp→Prop} (hf:P.funcs[f]?=some fn) (hb:fn.body=some c)
  (hn:noSel c=true) (hd:noDef c=true) (he:evFM P T lv fn c hints args h R):CallTo P f args.toArray h R:=by
 intro w hw
 subst hw
 refine (callsIn_wide (n:=0)).1 (callsIn_of_wp_marks hf hb trivial ?_)
 have key:=wpIn_wide (n:=0) |>.2 (evCM_sound (w0:=w) hm hT c hn hd _ _ _ w (Same.refl _) he)
 have e:({ tmps:=args.toArray ++ Array.replicate (fn.ntmps - args.toArray.size) undef,defers:=[] }:Act)=actL (envOf fn args) []:=by
  unfold actL envOf
  congr 1
  apply Array.ext'
  simp
 rw [e]
 refine wpIn_mono key fun e a w' hl=>?_
 obtain ⟨hs,D,env,rfl,hl⟩:=hl
 cases e <;> first | exact hl.elim | skip
 all_goals exact leaveM_sound D env w' hs hl
end
end Go.Ev
set_option linter.all false
set_option maxRecDepth 100000
namespace Go.Ev
open Go.Proofs
/- larder/larderlaw5.ChainSeen -/
noncomputable def body8:Code:=(Try.f8.body).getD .skip
def lv8 (m:Nat):List Nat:=if m=9 then [1,3,4,6,7] else []
def f8I1 (J:Nat→Addr→Option Addr→Option Addr→Sl→Int→Hp→Prop) (n:Nat) (env:List Value) (h:Hp):Prop:=lenIs env 150 (DecA env 1 fun s1=>DecP env 3 fun s3=>DecP env 4 fun s4=>DecL env 6 fun s6=>DecI .i64 env 7 fun s7=>J n s1 s3 s4 s6 s7 h)
def f8K3 (J1:Nat→Addr→Option Addr→Option Addr→Sl→Int→Hp→Prop) (n1:Nat) (x1:Addr) (x3:Option Addr) (x4:Option Addr) (x6:Sl) (x7:Int) (x8:Sl) (h:Hp) (R:Value→Hp→Prop):Prop :=
 CallTo Try.prog 13 #[.pointer x4,.bool false,.slice x8.a x8.n x8.c] h fun r h6=>∃ t59:Int,r=.int .i64 t59∧CallTo Try.prog 11 #[.int .i64 t59] h6 fun r h7=>∃ t61:Int,r=.int .i64 t61∧Cond (t61 != (0:Int)) (R (.bool false:Value) h7) (Let (h7.push (.cells #[.slice x8.a x8.n x8.c] 23)) fun h8=>appSl 23 1 24 #[.slice none 0 0] x6.a x6.n x6.c (some (nb h7)) 1 h8 fun ra9 rn9 rc9 h9=>∃ m,m < n1∧J1 m x1 x3 x4 ⟨ra9,rn9,rc9⟩ (IntKind.wrap .i64 (x7 + (1:Int))) h9)
def f8K5  (x1:Addr) (x3:Option Addr) (x4:Option Addr) (x10:Value) (x117:Bool) (h:Hp) (R:Value→Hp→Prop):Prop :=
 Cond x117 (R (.bool false:Value) h) (CallTo Try.prog 36 #[.pointer x4] h fun r h22=>∃ t119:Sl,r=.slice t119.a t119.n t119.c∧∃ t125:Sl,cell h22 (x1.add 1)=some (.slice t125.a t125.n t125.c)∧CallTo Try.prog 37 #[.pointer x3,.pointer x4,x10,.slice t119.a t119.n t119.c,.slice t125.a t125.n t125.c,.int .i64 (-1),.bool true] h22 fun r h23=>∃ t126:Bool,r=.bool t126∧Cond (!t126) (R (.bool false:Value) h23) (CallTo Try.prog 38 #[.pointer x4] h23 fun r h24=>r=.tuple #[]∧∃ t134:Sl,cell h24 (x1.add 1)=some (.slice t134.a t134.n t134.c)∧CallTo Try.prog 37 #[.pointer x3,.pointer x4,x10,.slice none 0 0,.slice t134.a t134.n t134.c,.int .i64 (-1),.bool false] h24 fun r h25=>∃ t135:Bool,r=.bool t135∧Cond t135 (CallTo Try.prog 16 #[.pointer x4] h25 fun r h26=>∃ t138:Int,r=.int .i64 t138∧Cond (t138 == (0:Int)) (PtrOk x3 fun p143=>∃ t145:Option Addr,cell h26 p143=some (.pointer t145)∧CallTo Try.prog 17 #[.pointer t145] h26 fun r h27=>∃ t146_0:Int,∃ t146_1:Int,∃ t146_2:Int,∃ t146_3:Int,∃ t146_4:Int,∃ t146_5:Int,∃ t146_6:Int,∃ t146_7:Int,∃ t146_8:Int,r=.agg #[.int .i64 t146_0,.int .i64 t146_1,.int .i64 t146_2,.int .i64 t146_3,.int .i64 t146_4,.int .i64 t146_5,.int .i64 t146_6,.int .i64 t146_7,.int .i64 t146_8]∧R ((.bool (t146_5 == (0:Int)):Value)) h27) (R (.bool false:Value) h26)) (R (.bool false:Value) h25)))
def f8K4  (x1:Addr) (x3:Option Addr) (x4:Option Addr) (x6:Sl) (x10:Value) (x12:Int) (h:Hp) (R:Value→Hp→Prop):Prop :=
 ∃ t105:Sl,cell h (x1.add 1)=some (.slice t105.a t105.n t105.c)∧CallTo Try.prog 37 #[.pointer x3,.pointer x4,x10,.slice x6.a x6.n x6.c,.slice t105.a t105.n t105.c,.int .i64 x12,.bool false] h fun r h21=>∃ t107:Bool,r=.bool t107∧Cond (!t107) (f8K5  x1 x3 x4 x10 true h21 R) (PtrOk x3 fun p111=>∃ t113:Option Addr,cell h21 p111=some (.pointer t113)∧CallTo Try.prog 17 #[.pointer t113] h21 fun r h28=>∃ t114_0:Int,∃ t114_1:Int,∃ t114_2:Int,∃ t114_3:Int,∃ t114_4:Int,∃ t114_5:Int,∃ t114_6:Int,∃ t114_7:Int,∃ t114_8:Int,r=.agg #[.int .i64 t114_0,.int .i64 t114_1,.int .i64 t114_2,.int .i64 t114_3,.int .i64 t114_4,.int .i64 t114_5,.int .i64 t114_6,.int .i64 t114_7,.int .i64 t114_8]∧f8K5  x1 x3 x4 x10 (t114_5 != (1:Int)) h28 R)
def f8K2 (J1:Nat→Addr→Option Addr→Option Addr→Sl→Int→Hp→Prop) (n1:Nat) (x1:Addr) (x3:Option Addr) (x4:Option Addr) (x6:Sl) (x7:Int) (x43:Bool) (h:Hp) (R:Value→Hp→Prop):Prop :=
 Cond x43 (∃ t47:Sl,cell h (x1.add 1)=some (.slice t47.a t47.n t47.c)∧(0 ≤ x7∧x7 < ((t47.n:Nat):Int))∧PtrOk t47.a fun p49=>∃ t51:Sl,cell h ((p49.add (x7.toNat * 7)).add 6)=some (.slice t51.a t51.n t51.c)∧Cond (decide ((((t51.n:Nat):Int)) > (60:Int))) ((0 ≤ (60:Int)∧(60:Int) ≤ ((t51.c:Nat):Int))∧(0 ≤ (0:Int)∧(0:Int) ≤ (60:Int))∧f8K3 J1 n1 x1 x3 x4 x6 x7 ⟨if t51.c=(0:Int).toNat then t51.a else Option.map (fun x=>x.add ((0:Int).toNat * 1)) t51.a,(60:Int).toNat - (0:Int).toNat,t51.c - (0:Int).toNat⟩ h R) (f8K3 J1 n1 x1 x3 x4 x6 x7 t51 h R)) (CallTo Try.prog 35 #[.pointer x4] h fun r h10=>∃ t68:Value,r=t68∧∃ t70:Bool,FnNil t68 t70∧Cond t70 (R (.bool false:Value) h10) (Let (h10.push (.cells #[.int .u8 108,.int .u8 97,.int .u8 116,.int .u8 101] 5)) fun h11=>PtrOk (some (nb h10)) fun p73=>Let (markH h11 p73.block) fun h12=>CallTo Try.prog 13 #[.pointer x4,.bool false,.slice (some (nb h10)) 4 4] h12 fun r h13=>∃ t74:Int,r=.int .i64 t74∧Let (h13.push (.cells #[.int .u8 108,.int .u8 97,.int .u8 116,.int .u8 101] 5)) fun h14=>PtrOk (some (nb h13)) fun p77=>Let (markH h14 p77.block) fun h15=>Let (h15.push (.cells #[.slice (some (nb h13)) 4 4] 23)) fun h16=>appSl 23 1 24 #[.slice none 0 0] x6.a x6.n x6.c (some (nb h15)) 1 h16 fun ra17 rn17 rc17 h17=>CallTo Try.prog 11 #[.int .i64 t74] h17 fun r h18=>∃ t81:Int,r=.int .i64 t81∧Cond (t81 != (0:Int)) (R (.bool false:Value) h18) (∃ t84:Sl,cell h18 (x1.add 1)=some (.slice t84.a t84.n t84.c)∧Cond (decide ((((t84.n:Nat):Int)) > (0:Int))) (∃ t89:Sl,cell h18 (x1.add 1)=some (.slice t89.a t89.n t89.c)∧(0 ≤ (0:Int)∧(0:Int) < ((t89.n:Nat):Int))∧PtrOk t89.a fun p90=>∃ t91_0:Int,cell h18 (p90.add ((0:Int).toNat * 7))=some (.int .i64 t91_0)∧∃ t91_1:Int,cell h18 ((p90.add ((0:Int).toNat * 7)).add 1)=some (.int .i64 t91_1)∧∃ t91_2:Int,cell h18 ((p90.add ((0:Int).toNat * 7)).add 2)=some (.int .i64 t91_2)∧∃ t91_3:Bool,cell h18 ((p90.add ((0:Int).toNat * 7)).add 3)=some (.bool t91_3)∧∃ t91_4:Int,cell h18 ((p90.add ((0:Int).toNat * 7)).add 4)=some (.int .i64 t91_4)∧∃ t91_5:Int,cell h18 ((p90.add ((0:Int).toNat * 7)).add 5)=some (.int .i64 t91_5)∧∃ t91_6:Sl,cell h18 ((p90.add ((0:Int).toNat * 7)).add 6)=some (.slice t91_6.a t91_6.n t91_6.c)∧CallTo Try.prog 33 #[.pointer x4,.agg #[.int .i64 t91_0,.int .i64 t91_1,.int .i64 t91_2,.bool t91_3,.int .i64 t91_4,.int .i64 t91_5,.slice t91_6.a t91_6.n t91_6.c]] h18 fun r h19=>∃ t92:Sl,r=.slice t92.a t92.n t92.c∧CallTo Try.prog 36 #[.pointer x4] h19 fun r h20=>∃ t94:Sl,r=.slice t94.a t94.n t94.c∧∃ t96:Sl,cell h20 (x1.add 1)=some (.slice t96.a t96.n t96.c)∧(0 ≤ (0:Int)∧(0:Int) < ((t96.n:Nat):Int))∧PtrOk t96.a fun p97=>∃ t99:Int,cell h20 ((p97.add ((0:Int).toNat * 7)).add 5)=some (.int .i64 t99)∧f8K4  x1 x3 x4 t94 t68 t99 h20 R) (f8K4  x1 x3 x4 ⟨ra17,rn17,rc17⟩ t68 (-1) h18 R))))
def f8K1  (x1:Addr) (x3:Option Addr) (x4:Option Addr) (x34:Bool) (h:Hp) (R:Value→Hp→Prop):Prop :=
 Cond x34 (R (.bool false:Value) h) (LoopEv (evCY Try.prog tab lv8 (sub [1,1,1,1,1,1,0,1,0,0] body8)) (contAtY Try.prog tab lv8 [1,1,1,1,1,1,0,1,0] body8 [] (bodyK Try.prog Try.f8 [] R)) [(1,.pointer (some x1)),(3,.pointer x3),(4,.pointer x4),(6,.slice none 0 0),(7,.int .i64 0)] 150 h)
def f8L1 (J1:Nat→Addr→Option Addr→Option Addr→Sl→Int→Hp→Prop) (n1:Nat) (s1:Addr) (s3:Option Addr) (s4:Option Addr) (s6:Sl) (s7:Int) (g:Nat→Value) (h:Hp) (R:Value→Hp→Prop):Prop :=
 ∃ t37:Sl,cell h (s1.add 1)=some (.slice t37.a t37.n t37.c)∧Cond (decide (s7 < (((t37.n:Nat):Int)))) (f8K2 J1 n1 s1 s3 s4 s6 s7 (decide (s7 < (50:Int))) h R) (f8K2 J1 n1 s1 s3 s4 s6 s7 false h R)
theorem f8L1_eq (J1:Nat→Addr→Option Addr→Option Addr→Sl→Int→Hp→Prop) (n1:Nat) (s1:Addr) (s3:Option Addr) (s4:Option Addr) (s6:Sl) (s7:Int) (g:Nat→Value) (h:Hp) (R:Value→Hp→Prop):(evCY Try.prog tab lv8 (sub [1,1,1,1,1,1,0,1,0,0] body8)) (loopK (f8I1 J1) n1 (contAtY Try.prog tab lv8 [1,1,1,1,1,1,0,1,0] body8 [] (bodyK Try.prog Try.f8 [] R))) (mkEnv 150 [(1,.pointer (some s1)),(3,.pointer s3),(4,.pointer s4),(6,.slice s6.a s6.n s6.c),(7,.int .i64 s7)] g) h=f8L1 J1 n1 s1 s3 s4 s6 s7 g h R:=by kernel_rfl
theorem f8I1_at (J:Nat→Addr→Option Addr→Option Addr→Sl→Int→Hp→Prop) (n:Nat) (s1:Addr) (s3:Option Addr) (s4:Option Addr) (s6:Sl) (s7:Int) (g:Nat→Value) (h:Hp):f8I1 J n (mkEnv 150 [(1,.pointer (some s1)),(3,.pointer s3),(4,.pointer s4),(6,.slice s6.a s6.n s6.c),(7,.int .i64 s7)] g) h=J n s1 s3 s4 s6 s7 h:=by kernel_rfl
theorem f8L1_rule  {R:Value→Hp→Prop} {s1:Addr} {s3:Option Addr} {s4:Option Addr} {s6:Sl} {s7:Int} {h0:Hp} (J:Nat→Addr→Option Addr→Option Addr→Sl→Int→Hp→Prop) (n0:Nat) (hi:J n0 s1 s3 s4 s6 s7 h0)
  (hr:∀ n s1 s3 s4 s6 s7 g h,J n s1 s3 s4 s6 s7 h→f8L1  J n s1 s3 s4 s6 s7 g h R):LoopEv (evCY Try.prog tab lv8 (sub [1,1,1,1,1,1,0,1,0,0] body8)) (contAtY Try.prog tab lv8 [1,1,1,1,1,1,0,1,0] body8 [] (bodyK Try.prog Try.f8 [] R)) [(1,.pointer (some s1)),(3,.pointer s3),(4,.pointer s4),(6,.slice s6.a s6.n s6.c),(7,.int .i64 s7)] 150 h0:=by
 refine ⟨f8I1 J,n0,fun g=>by rw [f8I1_at]; exact hi,fun n env h hI=>?_⟩
 clear hi
 clear s1 s3 s4 s6 s7
 obtain ⟨hlen,hI⟩:=Cond_true' hI
 have hlen:env.length=150:=by simpa using hlen
 obtain ⟨s1,es1,hI⟩:=DecA.out hI
 obtain ⟨s3,es3,hI⟩:=DecP.out hI
 obtain ⟨s4,es4,hI⟩:=DecP.out hI
 obtain ⟨s6,es6,hI⟩:=DecL.out hI
 obtain ⟨s7,es7,hI⟩:=DecI.out hI
 rw [mkEnv_of (l:=[(1,.pointer (some s1)),(3,.pointer s3),(4,.pointer s4),(6,.slice s6.a s6.n s6.c),(7,.int .i64 s7)]) hlen (by simp only [List.mem_cons,List.not_mem_nil,or_false,forall_eq_or_imp,forall_eq]; exact ⟨es1,es3,es4,es6,es7⟩)]
 rw [f8L1_eq]
 exact hr n s1 s3 s4 s6 s7 _ h hI
def f8F (a0_0:Int) (a0_1:Sl) (h:Hp) (R:Value→Hp→Prop):Prop :=
 Let (h.push (.cells #[.int .i64 a0_0,.slice a0_1.a a0_1.n a0_1.c] 73)) fun h1=>∃ t14:Int,cell h1 (nb h)=some (.int .i64 t14)∧CallTo Try.prog 10 #[.int .i64 t14,.int .i64 1000] h1 fun r h2=>∃ t15:Int,r=.int .i64 t15∧CallTo Try.prog 34 #[.int .i64 (IntKind.wrap .i64 (t15 + (4000:Int)))] h2 fun r h3=>∃ t17:Option Addr,r=.pointer t17∧Cond (Option.isNone t17) (R (.bool false:Value) h3) (PtrOk t17 fun p22=>∃ t24:Option Addr,cell h3 p22=some (.pointer t24)∧CallTo Try.prog 12 #[.pointer t24] h3 fun r h4=>∃ t25_0:Option Addr,∃ t25_1:Int,r=.tuple #[.pointer t25_0,.int .i64 t25_1]∧CallTo Try.prog 11 #[.int .i64 t25_1] h4 fun r h5=>∃ t29:Int,r=.int .i64 t29∧Cond (t29 != (0:Int)) (f8K1  (nb h) t17 t25_0 true h5 R) (f8K1  (nb h) t17 t25_0 (Option.isNone t25_0) h5 R))
theorem f8F_eq (a0_0:Int) (a0_1:Sl) (h:Hp) (R:Value→Hp→Prop):evFY Try.prog tab lv8 Try.f8 body8 [] [.agg #[.int .i64 a0_0,.slice a0_1.a a0_1.n a0_1.c]] h R=f8F a0_0 a0_1 h R:=by kernel_rfl
theorem f8F_ok {a0_0:Int} {a0_1:Sl} {h:Hp} {R:Value→Hp→Prop} (hF:f8F a0_0 a0_1 h R):CallTo Try.prog 8 #[.agg #[.int .i64 a0_0,.slice a0_1.a a0_1.n a0_1.c]] h R :=
 callTo_of_evY (lv:=lv8) (hints:=[]) (c:=body8) (args:=[.agg #[.int .i64 a0_0,.slice a0_1.a a0_1.n a0_1.c]]) mixed tab_ok Try.func8 (by kernel_rfl) (by kernel_rfl) (by kernel_rfl) (by rw [f8F_eq]; exact hF)
/- larder/larderlaw5.over -/
noncomputable def body37:Code:=(Try.f37.body).getD .skip
def lv37 (m:Nat):List Nat:=if m=3 then [7,8,10,11,12,13,14,15] else []
def f37F (a0:Option Addr) (a1:Option Addr) (a2:Value) (a3:Sl) (a4:Sl) (a5:Int) (a6:Bool) (h:Hp) (R:Value→Hp→Prop):Prop :=
 Let (h.push (.cells #[.pointer a0] 74)) fun h1=>Let (h1.push (.cells #[.pointer a1] 32)) fun h2=>Let (h2.push (.cells #[.slice a3.a a3.n a3.c] 22)) fun h3=>Let (h3.push (.cells #[.slice a4.a a4.n a4.c] 62)) fun h4=>Let (h4.push (.cells #[.int .i64 a5] 3)) fun h5=>Let (h5.push (.cells #[.bool a6] 4)) fun h6=>Let (h6.push (.cells #[.bool false] 4)) fun h7=>Let (h7.push (.cells #[.int .i64 0] 3)) fun h8=>stOk h8 (nb h7)∧Let (setc h8 (nb h7) (.int .i64 0)) fun h9=>RangeEv Try.prog tab a2 #[19,20] (rfA (sub [1,1,0,1,0] body37)) (rfB (sub [1,1,0,1,0] body37)) [(7,.pointer (some (nb h))),(8,.pointer (some (nb h1))),(10,.pointer (some (nb h2))),(11,.pointer (some (nb h3))),(12,.pointer (some (nb h4))),(13,.pointer (some (nb h5))),(14,.pointer (some (nb h6))),(15,.pointer (some (nb h7)))] 77 h9 (AfterJ (fun h10=>∃ t68:Int,cell h10 (nb h7)=some (.int .i64 t68)∧∃ t69:Sl,cell h10 (nb h2)=some (.slice t69.a t69.n t69.c)∧Cond (t68 == (((t69.n:Nat):Int))) (stOk h10 (nb h6)∧Let (setc h10 (nb h6) (.bool true)) fun h11=>h11[h9.size]?=some (.deferred (some []))∧Let (h11.setIfInBounds h9.size (.deferred none)) fun h12=>∃ v0:Bool,cell h12 (nb h6)=some (.bool v0)∧R (.bool v0:Value) h12) (∃ t73:Int,cell h10 (nb h7)=some (.int .i64 t73)∧∃ t74:Int,cell h10 (nb h4)=some (.int .i64 t74)∧stOk h10 (nb h6)∧Let (setc h10 (nb h6) (.bool (t73 == t74))) fun h13=>h13[h9.size]?=some (.deferred (some []))∧Let (h13.setIfInBounds h9.size (.deferred none)) fun h14=>∃ v0:Bool,cell h14 (nb h6)=some (.bool v0)∧R (.bool v0:Value) h14)) (fun h10=>h10[h9.size]?=some (.deferred (some []))∧Let (h10.setIfInBounds h9.size (.deferred none)) fun h15=>∃ v0:Bool,cell h15 (nb h6)=some (.bool v0)∧R (.bool v0:Value) h15) fun id h10=>if id=0 then (∃ t68:Int,cell h10 (nb h7)=some (.int .i64 t68)∧∃ t69:Sl,cell h10 (nb h2)=some (.slice t69.a t69.n t69.c)∧Cond (t68 == (((t69.n:Nat):Int))) (stOk h10 (nb h6)∧Let (setc h10 (nb h6) (.bool true)) fun h16=>h16[h9.size]?=some (.deferred (some []))∧Let (h16.setIfInBounds h9.size (.deferred none)) fun h17=>∃ v0:Bool,cell h17 (nb h6)=some (.bool v0)∧R (.bool v0:Value) h17) (∃ t73:Int,cell h10 (nb h7)=some (.int .i64 t73)∧∃ t74:Int,cell h10 (nb h4)=some (.int .i64 t74)∧stOk h10 (nb h6)∧Let (setc h10 (nb h6) (.bool (t73 == t74))) fun h18=>h18[h9.size]?=some (.deferred (some []))∧Let (h18.setIfInBounds h9.size (.deferred none)) fun h19=>∃ v0:Bool,cell h19 (nb h6)=some (.bool v0)∧R (.bool v0:Value) h19)) else False)
def f37B1 (s7:Addr) (s8:Addr) (s10:Addr) (s11:Addr) (s12:Addr) (s13:Addr) (s14:Addr) (s15:Addr) (a0:Int) (a1:Sl) (l:Nat) (h:Hp) (R:Value→Hp→Prop):Prop :=
 ∃ r:Loop,h[l]?=some (.loop r)∧r.state=.ready∧Let (h.setIfInBounds l (.loop { r with state:=.busy })) fun h1=>∃ t22:Int,cell h1 s15=some (.int .i64 t22)∧Cond (a0 != t22) (stOk h1 s14∧Let (setc h1 s14 (.bool false)) fun h2=>EndR l R (some .ret) h2) (∃ t25:Int,cell h1 s15=some (.int .i64 t25)∧∃ t26:Sl,cell h1 s10=some (.slice t26.a t26.n t26.c)∧Cond (decide (t25 ≥ (((t26.n:Nat):Int)))) (stOk h1 s14∧Let (setc h1 s14 (.bool false)) fun h3=>EndR l R (some .ret) h3) (∃ t32:Sl,cell h1 s10=some (.slice t32.a t32.n t32.c)∧∃ t33:Int,cell h1 s15=some (.int .i64 t33)∧(0 ≤ t33∧t33 < ((t32.n:Nat):Int))∧PtrOk t32.a fun p34=>∃ t35:Sl,cell h1 (p34.add (t33.toNat * 1))=some (.slice t35.a t35.n t35.c)∧CallTo Try.prog 18 #[.slice a1.a a1.n a1.c,.slice t35.a t35.n t35.c] h1 fun r h4=>∃ t36:Bool,r=.bool t36∧Cond (!t36) (stOk h4 s14∧Let (setc h4 s14 (.bool false)) fun h5=>EndR l R (some .ret) h5) (∃ t39:Int,cell h4 s15=some (.int .i64 t39)∧∃ t40:Sl,cell h4 s11=some (.slice t40.a t40.n t40.c)∧Cond (decide (t39 < (((t40.n:Nat):Int)))) (∃ t43:Option Addr,cell h4 s8=some (.pointer t43)∧∃ t44:Sl,cell h4 s11=some (.slice t44.a t44.n t44.c)∧∃ t45:Int,cell h4 s15=some (.int .i64 t45)∧(0 ≤ t45∧t45 < ((t44.n:Nat):Int))∧PtrOk t44.a fun p46=>∃ t47_0:Int,cell h4 (p46.add (t45.toNat * 7))=some (.int .i64 t47_0)∧∃ t47_1:Int,cell h4 ((p46.add (t45.toNat * 7)).add 1)=some (.int .i64 t47_1)∧∃ t47_2:Int,cell h4 ((p46.add (t45.toNat * 7)).add 2)=some (.int .i64 t47_2)∧∃ t47_3:Bool,cell h4 ((p46.add (t45.toNat * 7)).add 3)=some (.bool t47_3)∧∃ t47_4:Int,cell h4 ((p46.add (t45.toNat * 7)).add 4)=some (.int .i64 t47_4)∧∃ t47_5:Int,cell h4 ((p46.add (t45.toNat * 7)).add 5)=some (.int .i64 t47_5)∧∃ t47_6:Sl,cell h4 ((p46.add (t45.toNat * 7)).add 6)=some (.slice t47_6.a t47_6.n t47_6.c)∧CallTo Try.prog 33 #[.pointer t43,.agg #[.int .i64 t47_0,.int .i64 t47_1,.int .i64 t47_2,.bool t47_3,.int .i64 t47_4,.int .i64 t47_5,.slice t47_6.a t47_6.n t47_6.c]] h4 fun r h6=>∃ t48:Sl,r=.slice t48.a t48.n t48.c∧∃ t49:Int,cell h6 s15=some (.int .i64 t49)∧stOk h6 s15∧Let (setc h6 s15 (.int .i64 (IntKind.wrap .i64 (t49 + (1:Int))))) fun h7=>∃ t51:Option Addr,cell h7 s7=some (.pointer t51)∧PtrOk t51 fun p52=>∃ t54:Option Addr,cell h7 p52=some (.pointer t54)∧CallTo Try.prog 31 #[.pointer t54] h7 fun r h8=>r=.tuple #[]∧∃ t56:Bool,cell h8 s13=some (.bool t56)∧Cond t56 (∃ t58:Int,cell h8 s15=some (.int .i64 t58)∧∃ t59:Sl,cell h8 s10=some (.slice t59.a t59.n t59.c)∧Cond (t58 == (((t59.n:Nat):Int))) (∃ t63:Option Addr,cell h8 s8=some (.pointer t63)∧CallTo Try.prog 38 #[.pointer t63] h8 fun r h9=>r=.tuple #[]∧∃ t65:Int,cell h9 s15=some (.int .i64 t65)∧∃ t66:Int,cell h9 s12=some (.int .i64 t66)∧Cond (t65 == t66) (EndR l R (some (.exit 0)) h9) (EndR l R none h9)) (∃ t65:Int,cell h8 s15=some (.int .i64 t65)∧∃ t66:Int,cell h8 s12=some (.int .i64 t66)∧Cond (t65 == t66) (EndR l R (some (.exit 0)) h8) (EndR l R none h8))) (∃ t65:Int,cell h8 s15=some (.int .i64 t65)∧∃ t66:Int,cell h8 s12=some (.int .i64 t66)∧Cond (t65 == t66) (EndR l R (some (.exit 0)) h8) (EndR l R none h8))) (∃ t49:Int,cell h4 s15=some (.int .i64 t49)∧stOk h4 s15∧Let (setc h4 s15 (.int .i64 (IntKind.wrap .i64 (t49 + (1:Int))))) fun h10=>∃ t51:Option Addr,cell h10 s7=some (.pointer t51)∧PtrOk t51 fun p52=>∃ t54:Option Addr,cell h10 p52=some (.pointer t54)∧CallTo Try.prog 31 #[.pointer t54] h10 fun r h11=>r=.tuple #[]∧∃ t56:Bool,cell h11 s13=some (.bool t56)∧Cond t56 (∃ t58:Int,cell h11 s15=some (.int .i64 t58)∧∃ t59:Sl,cell h11 s10=some (.slice t59.a t59.n t59.c)∧Cond (t58 == (((t59.n:Nat):Int))) (∃ t63:Option Addr,cell h11 s8=some (.pointer t63)∧CallTo Try.prog 38 #[.pointer t63] h11 fun r h12=>r=.tuple #[]∧∃ t65:Int,cell h12 s15=some (.int .i64 t65)∧∃ t66:Int,cell h12 s12=some (.int .i64 t66)∧Cond (t65 == t66) (EndR l R (some (.exit 0)) h12) (EndR l R none h12)) (∃ t65:Int,cell h11 s15=some (.int .i64 t65)∧∃ t66:Int,cell h11 s12=some (.int .i64 t66)∧Cond (t65 == t66) (EndR l R (some (.exit 0)) h11) (EndR l R none h11))) (∃ t65:Int,cell h11 s15=some (.int .i64 t65)∧∃ t66:Int,cell h11 s12=some (.int .i64 t66)∧Cond (t65 == t66) (EndR l R (some (.exit 0)) h11) (EndR l R none h11))))))
theorem f37B1_eq (s7:Addr) (s8:Addr) (s10:Addr) (s11:Addr) (s12:Addr) (s13:Addr) (s14:Addr) (s15:Addr) (a0:Int) (a1:Sl) (l:Nat) (g:Nat→Value) (h:Hp) (R:Value→Hp→Prop):RoundEv Try.prog tab lv37 l (rfA (sub [1,1,0,1,0] body37)) (rfB (sub [1,1,0,1,0] body37)) (mkEnv 77 [(7,.pointer (some s7)),(8,.pointer (some s8)),(10,.pointer (some s10)),(11,.pointer (some s11)),(12,.pointer (some s12)),(13,.pointer (some s13)),(14,.pointer (some s14)),(15,.pointer (some s15)),(19,.int .i64 a0),(20,.slice a1.a a1.n a1.c)] g) h R=f37B1 s7 s8 s10 s11 s12 s13 s14 s15 a0 a1 l h R:=by kernel_rfl
noncomputable def f37Rec1 (s7:Addr) (s8:Addr) (s10:Addr) (s11:Addr) (s12:Addr) (s13:Addr) (s14:Addr) (s15:Addr) (g:Nat→Value) (fn:FuncId) (b:Nat) (st:LoopState) (pend:Option Code):Loop:=recL fn (mkEnv 77 [(7,.pointer (some s7)),(8,.pointer (some s8)),(10,.pointer (some s10)),(11,.pointer (some s11)),(12,.pointer (some s12)),(13,.pointer (some s13)),(14,.pointer (some s14)),(15,.pointer (some s15))] g) #[19,20] (rfA (sub [1,1,0,1,0] body37)) (rfB (sub [1,1,0,1,0] body37)) b st pend
theorem f37B1_ok {s7:Addr} {s8:Addr} {s10:Addr} {s11:Addr} {s12:Addr} {s13:Addr} {s14:Addr} {s15:Addr} {a0:Int} {a1:Sl} {l:Nat} {g:Nat→Value} {fn:FuncId} {b:Nat} {pend:Option Code} {h:Hp} {R:Value→Hp→Prop} (hl:h[l]?=some (.loop (f37Rec1 s7 s8 s10 s11 s12 s13 s14 s15 g fn b .ready pend))) (hB:f37B1 s7 s8 s10 s11 s12 s13 s14 s15 a0 a1 l h R):YieldTo Try.prog l [.int .i64 a0,.slice a1.a a1.n a1.c] h R :=
 yieldTo_of (lv:=lv37) (r:=f37Rec1 s7 s8 s10 s11 s12 s13 s14 s15 g fn b .ready pend) (env:=mkEnv 77 [(7,.pointer (some s7)),(8,.pointer (some s8)),(10,.pointer (some s10)),(11,.pointer (some s11)),(12,.pointer (some s12)),(13,.pointer (some s13)),(14,.pointer (some s14)),(15,.pointer (some s15)),(19,.int .i64 a0),(20,.slice a1.a a1.n a1.c)] g) mixed tab_ok hl rfl (by kernel_rfl) (by kernel_rfl) (by kernel_rfl) (by kernel_rfl) (by kernel_rfl) (by
  show RoundEv Try.prog tab lv37 l (rfA (sub [1,1,0,1,0] body37)) (rfB (sub [1,1,0,1,0] body37)) _ h R
  rw [f37B1_eq]; exact hB)
theorem f37F_eq (a0:Option Addr) (a1:Option Addr) (a2:Value) (a3:Sl) (a4:Sl) (a5:Int) (a6:Bool) (h:Hp) (R:Value→Hp→Prop):evFM Try.prog tab lv37 Try.f37 body37 [.bool] [.pointer a0,.pointer a1,a2,.slice a3.a a3.n a3.c,.slice a4.a a4.n a4.c,.int .i64 a5,.bool a6] h R=f37F a0 a1 a2 a3 a4 a5 a6 h R:=by kernel_rfl
theorem f37F_ok {a0:Option Addr} {a1:Option Addr} {a2:Value} {a3:Sl} {a4:Sl} {a5:Int} {a6:Bool} {h:Hp} {R:Value→Hp→Prop} (hF:f37F a0 a1 a2 a3 a4 a5 a6 h R):CallTo Try.prog 37 #[.pointer a0,.pointer a1,a2,.slice a3.a a3.n a3.c,.slice a4.a a4.n a4.c,.int .i64 a5,.bool a6] h R :=
 callTo_of_evM (lv:=lv37) (hints:=[.bool]) (c:=body37) (args:=[.pointer a0,.pointer a1,a2,.slice a3.a a3.n a3.c,.slice a4.a a4.n a4.c,.int .i64 a5,.bool a6]) mixed tab_ok Try.func37 (by kernel_rfl) (by kernel_rfl) (by kernel_rfl) (by rw [f37F_eq]; exact hF)
/- (*larder/chain.List).All$1 -/
noncomputable def body62:Code:=(Try.f62.body).getD .skip
def lv62 (m:Nat):List Nat:=if m=2 then [0,14,15,16] else []
def f62I1 (J:Nat→Value→Sl→Int→Int→Hp→Prop) (n:Nat) (env:List Value) (h:Hp):Prop:=lenIs env 27 (DecV env 0 fun s0=>DecL env 14 fun s14=>DecI .i64 env 15 fun s15=>DecI .i64 env 16 fun s16=>J n s0 s14 s15 s16 h)
def f62L1 (J1:Nat→Value→Sl→Int→Int→Hp→Prop) (n1:Nat) (s0:Value) (s14:Sl) (s15:Int) (s16:Int) (g:Nat→Value) (h:Hp) (R:Value→Hp→Prop):Prop :=
 Cond (decide (s16 < s15)) ((0 ≤ s16∧s16 < ((s14.n:Nat):Int))∧PtrOk s14.a fun p19=>∃ t20:Sl,cell h (p19.add (s16.toNat * 1))=some (.slice t20.a t20.n t20.c)∧DynY Try.prog s0 [.int .i64 s16,.slice t20.a t20.n t20.c] h fun r h3=>∃ t24:Bool,r=.bool t24∧Cond (!t24) (R (.tuple #[]:Value) h3) (∃ m,m < n1∧J1 m s0 s14 s15 (IntKind.wrap .i64 (s16 + (1:Int))) h3)) (R (.tuple #[]:Value) h)
theorem f62L1_eq (J1:Nat→Value→Sl→Int→Int→Hp→Prop) (n1:Nat) (s0:Value) (s14:Sl) (s15:Int) (s16:Int) (g:Nat→Value) (h:Hp) (R:Value→Hp→Prop):(evCY Try.prog tab lv62 (sub [1,1,0,0] body62)) (loopK (f62I1 J1) n1 (contAtY Try.prog tab lv62 [1,1,0] body62 [] (bodyK Try.prog Try.f62 [] R))) (mkEnv 27 [(0,s0),(14,.slice s14.a s14.n s14.c),(15,.int .i64 s15),(16,.int .i64 s16)] g) h=f62L1 J1 n1 s0 s14 s15 s16 g h R:=by kernel_rfl
theorem f62I1_at (J:Nat→Value→Sl→Int→Int→Hp→Prop) (n:Nat) (s0:Value) (s14:Sl) (s15:Int) (s16:Int) (g:Nat→Value) (h:Hp):f62I1 J n (mkEnv 27 [(0,s0),(14,.slice s14.a s14.n s14.c),(15,.int .i64 s15),(16,.int .i64 s16)] g) h=J n s0 s14 s15 s16 h:=by kernel_rfl
theorem f62L1_rule  {R:Value→Hp→Prop} {s0:Value} {s14:Sl} {s15:Int} {s16:Int} {h0:Hp} (J:Nat→Value→Sl→Int→Int→Hp→Prop) (n0:Nat) (hi:J n0 s0 s14 s15 s16 h0)
  (hr:∀ n s0 s14 s15 s16 g h,J n s0 s14 s15 s16 h→f62L1  J n s0 s14 s15 s16 g h R):LoopEv (evCY Try.prog tab lv62 (sub [1,1,0,0] body62)) (contAtY Try.prog tab lv62 [1,1,0] body62 [] (bodyK Try.prog Try.f62 [] R)) [(0,s0),(14,.slice s14.a s14.n s14.c),(15,.int .i64 s15),(16,.int .i64 s16)] 27 h0:=by
 refine ⟨f62I1 J,n0,fun g=>by rw [f62I1_at]; exact hi,fun n env h hI=>?_⟩
 clear hi
 clear s0 s14 s15 s16
 obtain ⟨hlen,hI⟩:=Cond_true' hI
 have hlen:env.length=27:=by simpa using hlen
 obtain ⟨s0,es0,hI⟩:=DecV.out hI
 obtain ⟨s14,es14,hI⟩:=DecL.out hI
 obtain ⟨s15,es15,hI⟩:=DecI.out hI
 obtain ⟨s16,es16,hI⟩:=DecI.out hI
 rw [mkEnv_of (l:=[(0,s0),(14,.slice s14.a s14.n s14.c),(15,.int .i64 s15),(16,.int .i64 s16)]) hlen (by simp only [List.mem_cons,List.not_mem_nil,or_false,forall_eq_or_imp,forall_eq]; exact ⟨es0,es14,es15,es16⟩)]
 rw [f62L1_eq]
 exact hr n s0 s14 s15 s16 _ h hI
def f62F (a0:Value) (c0:Addr) (h:Hp) (R:Value→Hp→Prop):Prop :=
 ∃ t8:Option Addr,cell h c0=some (.pointer t8)∧∃ t9:Option Addr,cell h c0=some (.pointer t9)∧CallTo Try.prog 16 #[.pointer t9] h fun r h1=>∃ t10:Int,r=.int .i64 t10∧(∃ y0:Option Addr,cell h1 c0=some (.pointer y0)∧Next.value (.pointer y0)=Next.value (.pointer t8))∧CallTo Try.prog 15 #[.pointer t8,.int .i64 0,.int .i64 t10] h1 fun r h2=>∃ t11_0:Sl,∃ t11_1:Int,r=.tuple #[.slice t11_0.a t11_0.n t11_0.c,.int .i64 t11_1]∧LoopEv (evCY Try.prog tab lv62 (sub [1,1,0,0] body62)) (contAtY Try.prog tab lv62 [1,1,0] body62 [] (bodyK Try.prog Try.f62 [] R)) [(0,a0),(14,.slice t11_0.a t11_0.n t11_0.c),(15,.int .i64 (((t11_0.n:Nat):Int))),(16,.int .i64 0)] 27 h2
theorem f62F_eq (a0:Value) (c0:Addr) (h:Hp) (R:Value→Hp→Prop):evFY Try.prog tab lv62 Try.f62 body62 [] [a0,.pointer (some c0)] h R=f62F a0 c0 h R:=by kernel_rfl
theorem f62F_ok {a0:Value} {c0:Addr} {h:Hp} {R:Value→Hp→Prop} (hF:f62F a0 c0 h R):CallTo Try.prog 62 #[a0,.pointer (some c0)] h R :=
 callTo_of_evY (lv:=lv62) (hints:=[]) (c:=body62) (args:=[a0,.pointer (some c0)]) mixed tab_ok Try.func62 (by kernel_rfl) (by kernel_rfl) (by kernel_rfl) (by rw [f62F_eq]; exact hF)
end Go.Ev
