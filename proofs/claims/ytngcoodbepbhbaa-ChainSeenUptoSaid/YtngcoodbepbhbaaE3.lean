/- Regions, code and loops for the evaluator / The evaluator is sound down to the model's own calls / The words in which the functions are printed, and frames at a loop's head / Facts on machine numbers / Objects and their words, as plain lists. No condition but that these are ones. -/
import Derived.Test.YtngcoodbepbhbaaE2
import Derived.KernelRfl
set_option linter.all false
namespace Go.Ev

/-! ### Guards -/
def evG (ops:Array Oper) (o:Oper) (env:List Value) (exec skip:List Value→Prop):Prop :=
 match o.guard with
 | none=>exec env
 | some (j,want) =>
  match (ops[j]?).bind (·.dst) with
  | none=>skip env
  | some s =>
   match env[s]? with
   | some (.bool t)=>Cond t (if want=true then exec (env.set s (.bool true)) else skip (env.set s (.bool true))) (if want=true then skip (env.set s (.bool false)) else exec (env.set s (.bool false)))
   | _=>skip env

/-! ### Quiet operations -/
inductive Cls where
 | pure
 | conv (a:Option Addr) (n:Nat)
 | read
 | look (t:TypeId) (x k:Value) (co:Bool)
 | qcall (f:FuncId) (args:List Value)
 | qinvoke (f:FuncId) (t:TypeId) (recv:Value) (args:List Value)
 | loud
def convCls (P:Program) (src dst:TypeId):Value→Cls
 | .slice a n _=>match P.underlying src,P.underlying dst with
  | some (.slice e),some .string=>match P.underlying e with
   | some (.int .u8)=>.conv a n
   | _=>.loud
  | _,_=>.loud
 | .string _=>match P.underlying dst with
  | some (.slice _)=>.loud
  | _=>.pure
 | _=>.pure
theorem convCls_nq {P:Program} {src dst:TypeId} {v:Value} {f:FuncId} {args:List Value}:convCls P src dst v ≠ .qcall f args:=by
 unfold convCls
 split
 ·split
  ·split <;> (intro h; cases h)
  ·intro h; cases h
 ·split <;> (intro h; cases h)
 ·intro h; cases h
theorem convCls_ni {P:Program} {src dst:TypeId} {v:Value} {f:FuncId} {t:TypeId} {r:Value} {args:List Value}:convCls P src dst v ≠ .qinvoke f t r args:=by
 unfold convCls
 split
 ·split
  ·split <;> (intro h; cases h)
  ·intro h; cases h
 ·split <;> (intro h; cases h)
 ·intro h; cases h
theorem convCls_nl {P:Program} {src dst:TypeId} {v:Value} {t:TypeId} {x k:Value} {co:Bool}:convCls P src dst v ≠ .look t x k co:=by
 unfold convCls
 split
 ·split
  ·split <;> (intro h; cases h)
  ·intro h; cases h
 ·split <;> (intro h; cases h)
 ·intro h; cases h
theorem convCls_conv {P:Program} {src dst:TypeId} {v:Value} {a:Option Addr} {n:Nat} (h:convCls P src dst v=.conv a n):∃ c e,v=.slice a n c∧P.underlying src=some (.slice e)∧P.underlying dst=some .string∧P.underlying e=some (.int .u8):=by
 unfold convCls at h
 split at h
 ·split at h
  ·rename_i hs hd
   split at h
   ·rename_i he
    simp only [Cls.conv.injEq] at h
    obtain ⟨rfl,rfl⟩:=h
    exact ⟨_,_,rfl,hs,hd,he⟩
   ·cases h
  ·cases h
 ·split at h <;> cases h
 ·cases h
def clsOf (P:Program) (T:Tab) (o:Oper) (env:List Value):Cls :=
 match o.op with
 | .load ..=>.read
 | .store ..=>.loud
 | .alloc _=>.loud
 | .box ..=>.loud
 | .buildSlice ..=>.loud
 | .makeMap ..=>.loud
 | .makeSlice ..=>.loud
 | .insert ..=>.loud
 | .lookup t x k co=>.look t (evalL env x) (evalL env k) co
 | .mapUpdate ..=>.loud
 | .mapEntry ..=>.loud
 | .entryStore ..=>.loud
 | .range ..=>.loud
 | .next ..=>.loud
 | .entry ..=>.loud
 | .makeChan ..=>.loud
 | .defer ..=>.loud
 | .convert src dst x=>convCls P src dst (evalL env x)
 | .call c =>
  match c.callee with
  | .value f =>
   if isTmp f=true then .loud else
   match evalL env f with
   | .func (.func g) first captured=>if T.quiet g then .qcall g (first.toList ++ c.args.toList.map (evalL env) ++ captured.toList) else .loud
   | _=>.loud
  | .invoke r m =>
   match T.meth m with
   | some (t,f)=>if T.quiet f then .qinvoke f t (evalL env r) (c.args.toList.map (evalL env)) else .loud
   | none=>.loud
  | .builtin .len=>.pure
  | .builtin .cap=>.pure
  | .builtin .min=>.pure
  | .builtin .max=>.pure
  | .builtin _=>.loud
 | _=>.pure
def isLoud (P:Program) (T:Tab) (o:Oper) (env:List Value):Bool:=match clsOf P T o env with | .loud=>true | _=>false
def valOf:Next→(Value→Prop)→Prop
 | .value v,K=>K v
 | _,_=>False
/-- A quiet operation: its value, and what must hold of a heap for it to yield that value there. -/
def evQ (P:Program) (T:Tab) (o:Oper) (env:List Value) (h:Hp) (K:Value→Option (Hp→Prop)→Prop):Prop :=
 match clsOf P T o env with
 | .pure=>evPureM P T o env fun v=>K v none
 | .conv a n=>∃ s:ByteArray,Spells h a n s∧K (.string s) (some fun h'=>Spells h' a n s)
 | .read=>rdSem P (execOp (evalL env) o) (match o.op with | .load t _=>T.tk t | _=>[]) h fun nx _=>valOf nx fun v =>
   K v (some fun h'=>rdSem P (execOp (evalL env) o) (match o.op with | .load t _=>T.tk t | _=>[]) h' fun nx' _=>nx'=.value v)
 | .look t x key co=>match P.underlying t with
  | some (.map kt et)=>rk1 T et fun v=>∃ ok:Bool,MapGet P kt et x key h v ok∧K (if co then .tuple #[v,.bool ok] else v) (some fun h'=>MapGet P kt et x key h' v ok)
  | _=>False
 | .qcall f args=>Cond (T.callee f) (resEx (T.rk f) fun v =>
   CallTo P f args.toArray h (fun v' h'=>v'=v∧h'=h)∧K v (some fun h'=>CallTo P f args.toArray h' fun v' h''=>v'=v∧h''=h')) False
 | .qinvoke f t recv args=>∃ a:Option Addr,recv=.iface t (.pointer a)∧resEx (T.rk f) fun v =>
   CallTo P f (.pointer a :: args).toArray h (fun v' h'=>v'=v∧h'=h)∧K v (some fun h'=>CallTo P f (.pointer a :: args).toArray h' fun v' h''=>v'=v∧h''=h')
 | .loud=>False

def addP (i:Nat) (S:Option (Hp→Prop)) (ps:List Pend):List Pend :=
 match S with
 | none=>ps
 | some S=>⟨i,fun k=>k == i,S⟩ :: ps
/-- Behind a loud operation: what is not surely past must hold still. -/
def oblK (o:Oper) (h:Hp):List Pend→(List Pend→Prop)→Prop
 | [],X=>X []
 | p :: ps,X=>Cond (waits o p.W) (oblK o h ps X) (p.S h∧oblK o h ps fun qs=>X (p :: qs))
def allL:List Nat→(Nat→Prop)→Prop
 | [],_=>True
 | [i],φ=>φ i
 | i :: j :: is,φ=>φ i∧allL (j :: is) φ

def evR (P:Program) (T:Tab) (ops:Array Oper) (Q:List Value→Hp→Prop):Nat→List Pend→Array Bool→List Value→Hp→Prop
 | 0,_,listed,env,h=>match Region.ready .any ops listed with | []=>Q env h | _=>False
 | fuel + 1,ps,listed,env,h =>
  match (Region.ready .any ops listed).find? fun i=>match ops[i]? with | some o=>!isLoud P T o env | none=>false with
  | some i =>
   match ops[i]? with
   | some o=>Cond (Region.free .any ops listed i)
     (evG ops o env (fun env'=>evQ P T o env' h fun v S=>evR P T ops Q fuel (addP i S (hypL ps i o)) (listed.setIfInBounds i true) (putL env' o.dst v) h)
      (fun env'=>evR P T ops Q fuel (hypL ps i o) (listed.setIfInBounds i true) (putL env' o.dst undef) h)) False
   | none=>False
  | none =>
   match Region.ready .any ops listed with
   | []=>Q env h
   | r :: rs=>allL (r :: rs) fun j =>
    match ops[j]? with
    | some o=>evG ops o env (fun env'=>evOp P T o env' h fun v h'=>oblK o h' ps fun qs=>evR P T ops Q fuel qs (listed.setIfInBounds j true) (putL env' o.dst v) h')
      (fun env'=>oblK o h ps fun qs=>evR P T ops Q fuel qs (listed.setIfInBounds j true) (putL env' o.dst undef) h)
    | none=>False

/-! ### Straight regions, code -/
def evOps (P:Program) (T:Tab) (ops:Array Oper):List Oper→List Value→Hp→(List Value→Hp→Prop)→Prop
 | [],env,h,Q=>Q env h
 | o :: rest,env,h,Q=>evG ops o env (fun env'=>evOp P T o env' h fun v h'=>evOps P T ops rest (putL env' o.dst v) h' Q)
   (fun env'=>evOps P T ops rest (putL env' o.dst undef) h Q)

def mkEnv (n:Nat) (l:List (Nat × Value)) (g:Nat→Value):List Value:=(List.range n).map fun k=>(l.lookup k).getD (g k)
theorem mkEnv_of {env:List Value} {n:Nat} {l:List (Nat × Value)} (hn:env.length=n) (hl:∀ p ∈ l,env[p.1]?=some p.2):env=mkEnv n l fun k=>env.getD k undef:=by
 subst hn
 apply List.ext_getElem?
 intro k
 unfold mkEnv
 by_cases hk:k < env.length
 ·rw [List.getElem?_map,List.getElem?_range hk,Option.map_some]
  cases hlk:l.lookup k with
  | none=>simp [hk]
  | some v =>
   have:∀ (l:List (Nat × Value)),l.lookup k=some v→(k,v) ∈ l:=by
    intro l
    induction l with
    | nil=>intro h; cases h
    | cons p l ih =>
     intro h
     obtain ⟨a,b⟩:=p
     rw [List.lookup_cons] at h
     split at h
     ·rename_i hab
      obtain rfl:b=v:=by simpa using h
      obtain rfl:k=a:=by simpa using hab
      exact List.mem_cons_self ..
     ·exact List.mem_cons_of_mem _ (ih h)
   exact hl _ (this l hlk)
 ·rw [List.getElem?_eq_none (by omega),List.getElem?_eq_none (by simp; omega)]
theorem mkEnv_self (s:List Nat) (env:List Value):mkEnv env.length (s.map fun k=>(k,env.getD k undef)) (fun k=>env.getD k undef)=env:=by
 apply List.ext_getElem?
 intro k
 unfold mkEnv
 by_cases hk:k < env.length
 ·rw [List.getElem?_map,List.getElem?_range hk,Option.map_some]
  have:∀ (l:List Nat) (v:Value),(l.map fun k=>(k,env.getD k undef)).lookup k=some v→v=env.getD k undef:=by
   intro l
   induction l with
   | nil=>intro v h; cases h
   | cons p l ih =>
    intro v h
    rw [List.map_cons,List.lookup_cons] at h
    split at h
    ·rename_i hab
     obtain rfl:k=p:=by simpa using hab
     simpa using h.symm
    ·exact ih v h
  cases hlk:(s.map fun k=>(k,env.getD k undef)).lookup k with
  | none=>simp [hk]
  | some v=>rw [this s v hlk]; simp [hk]
 ·rw [List.getElem?_eq_none (by simp; omega),List.getElem?_eq_none (by omega)]
abbrev Kc:=Exit→List Value→Hp→Prop
def seqK (next:List Value→Hp→Prop) (Q:Kc):Kc
 | .normal,env,h=>next env h
 | e,env,h=>Q e env h
def blockK (id:Nat) (Q:Kc):Kc
 | .exit id',env,h=>if id'=id then Q .normal env h else Q (.exit id') env h
 | e,env,h=>Q e env h
def loopK (I:Nat→List Value→Hp→Prop) (n:Nat) (Q:Kc):Kc
 | .normal,env,h=>∃ m,m < n∧I m env h
 | e,env,h=>Q e env h
/-- A loop, by a relation with a count that every round lowers. 'l': the slots that matter at its head; whatever stands in the others. -/
def LoopEv (ev:Kc→List Value→Hp→Prop) (Q:Kc) (l:List (Nat × Value)) (N:Nat) (h:Hp):Prop :=
 ∃ (I:Nat→List Value→Hp→Prop) (n:Nat),(∀ g,I n (mkEnv N l g) h)∧∀ n env h,I n env h→ev (loopK I n Q) env h
/-- The number of the first region: a loop's mark. -/
def firstR:Code→Nat
 | .region id _ _=>id
 | .seq a _=>firstR a
 | .cond _ a _=>firstR a
 | .block _ c=>firstR c
 | .loop c=>firstR c
 | _=>0
def pairsOf (s:List Nat) (env:List Value):List (Nat × Value):=s.map fun k=>(k,env.getD k undef)
def evC (P:Program) (T:Tab) (lv:Nat→List Nat):Code→Kc→List Value→Hp→Prop
 | .skip,Q,env,h=>Q .normal env h
 | .ret,Q,env,h=>Q .ret env h
 | .exit id,Q,env,h=>Q (.exit id) env h
 | .seq a b,Q,env,h=>evC P T lv a (seqK (evC P T lv b Q) Q) env h
 | .cond c a b,Q,env,h=>match evalL env c with
  | .bool t=>Cond t (evC P T lv a Q env h) (evC P T lv b Q env h)
  | _=>False
 | .block id c,Q,env,h=>evC P T lv c (blockK id Q) env h
 | .loop c,Q,env,h=>LoopEv (evC P T lv c) Q (pairsOf (lv (firstR c)) env) env.length h
 | .region _ ops draw,Q,env,h =>
  if draw=true then evR P T ops (Q .normal) ops.size [] (Array.replicate ops.size false) env h
  else evOps P T ops ops.toList env h (Q .normal)
 | _,_,_,_=>False

/-! ### Soundness -/
def lift (D:List Deferred) (w0:World) (Q:Kc) (e:Exit) (a:Act) (w:World):Prop :=
 Same w0 w∧∃ env,a=actL env D∧match e with | .normal=>Q .normal env w.heap | .exit id=>Q (.exit id) env w.heap | .ret=>Q .ret env w.heap | _=>False

section
variable {P:Program} {T:Tab} {D:List Deferred} {w0:World}
theorem Cond.split {t:Bool} {A B:Prop} (h:Cond t A B):(t=true∧A) ∨ (t=false∧B):=by
 cases t with
 | true=>exact .inl ⟨rfl,h⟩
 | false=>exact .inr ⟨rfl,h⟩
theorem yielded_at {ops:Array Oper} {j s:Nat} {env:List Value} (hs:(ops[j]?).bind (·.dst)=some s) :
  yielded ops env.toArray j=match env[s]? with | some (.bool b)=>some b | _=>none:=by
 unfold yielded
 rw [hs]
 simp only [Option.bind_some,List.getElem?_toArray]
 rcases env[s]? with _ | v
 ·rfl
 ·cases v <;> rfl
theorem set_same {env:List Value} {s:Nat} {v:Value} (h:env[s]?=some v):env.set s v=env:=by
 apply List.ext_getElem?
 intro k
 by_cases hk:s=k
 ·subst hk
  rw [List.getElem?_set_self (by exact (List.getElem?_eq_some_iff.1 h).1),h]
 ·rw [List.getElem?_set_ne hk]
/-- Either the operation is wanted, and 'exec' holds of the frame, or it is not, and 'skip' does. -/
theorem evG_sound {ops:Array Oper} {o:Oper} {env:List Value} {exec skip:List Value→Prop} (h:evG ops o env exec skip) :
  (Region.wanted o (yielded ops env.toArray)=true∧exec env) ∨ (Region.wanted o (yielded ops env.toArray)=false∧skip env):=by
 unfold evG at h
 split at h
 ·rename_i hg
  exact .inl ⟨by unfold Region.wanted; rw [hg],h⟩
 ·rename_i j want hg
  split at h
  ·rename_i hs
   refine .inr ⟨?_,h⟩
   unfold Region.wanted yielded
   simp only [hg,hs]
   cases want <;> rfl
  ·rename_i s hs
   have hy:=yielded_at (env:=env) hs
   split at h
   ·rename_i t ht
    rw [ht] at hy
    rcases h.split with ⟨rfl,hc⟩ | ⟨rfl,hc⟩
    ·rw [set_same ht] at hc
     cases want with
     | true=>exact .inl ⟨by unfold Region.wanted; simp only [hg,hy]; rfl,by simpa using hc⟩
     | false=>exact .inr ⟨by unfold Region.wanted; simp only [hg,hy]; rfl,by simpa using hc⟩
    ·rw [set_same ht] at hc
     cases want with
     | true=>exact .inr ⟨by unfold Region.wanted; simp only [hg,hy]; rfl,by simpa using hc⟩
     | false=>exact .inl ⟨by unfold Region.wanted; simp only [hg,hy]; rfl,by simpa using hc⟩
   ·rename_i hne
    refine .inr ⟨?_,h⟩
    unfold Region.wanted
    simp only [hg,hy]
    cases want <;> rfl

theorem OpOk.wp {o:Oper} {env:List Value} {w:World} {K:Value→Hp→Prop} (hs0:Same w0 w) (h:OpOk P o env w K) {next:Act→World→Prop} {Q:Exit→Act→World→Prop}
  (hn:∀ v w',Same w0 w'→K v w'.heap→next (actL (putL env o.dst v) D) w'):o.wp P (actL env D) w next Q:=by
 unfold Oper.wp
 rw [eval_actL]
 rcases h with ⟨v,w',hr,hs,hk⟩ | ⟨f,args,hr,hc⟩
 ·have:=hn v w' (hs0.trans hs) hk
  rw [← put_actL] at this
  rcases hr with hr | ⟨hr,rfl⟩
  ·rw [hr,Oper.upon_value]; exact this
  ·rw [hr,Oper.upon_skip]; exact this
 ·rw [hr,Oper.upon_enter]
  refine (hc w rfl).mono fun e w' ⟨v,he,hs,hk⟩=>?_
  subst he
  have:=hn v w' (hs0.trans hs) hk
  rw [← put_actL] at this
  exact this

theorem evOps_sound (hT:TabOk P T) {ops:Array Oper} {Q:Kc}:∀ (l:List Oper) (k:Nat) (env:List Value) (w:World),(∀ i,l[i]?=ops[k + i]?)→Same w0 w →
  evOps P T ops l env w.heap (Q .normal)→wpOps P ops (lift D w0 Q) (List.range' k l.length) (actL env D) w:=by
 intro l
 induction l with
 | nil=>intro k env w _ hs h; exact ⟨hs,env,rfl,h⟩
 | cons o rest ih =>
  intro k env w hl hs h
  have ho:ops[k]?=some o:=by have:=hl 0; simpa using this.symm
  have hl':∀ i,rest[i]?=ops[k + 1 + i]?:=fun i=>by have:=hl (i + 1); rw [show k + (i + 1)=k + 1 + i by omega] at this; simpa using this
  rw [List.length_cons,List.range'_succ,wpOps_cons]
  unfold wpOp
  simp only [ho]
  have e:(actL env D).tmps=env.toArray:=rfl
  rw [e]
  unfold evOps at h
  rcases evG_sound h with ⟨hw,h⟩ | ⟨hw,h⟩
  ·rw [if_pos hw]
   exact .inl (OpOk.wp hs (evOp_sound hT h) fun v w' hs' hk=>ih (k + 1) _ w' hl' hs' hk)
  ·rw [hw]
   simp only [Bool.false_eq_true,if_false]
   rw [put_actL]
   exact ih (k + 1) _ w hl' hs h

theorem VK.ex_keep {k:VK} {φ:Value→Prop} (h:k.ex φ):∃ v,φ v∧∀ ψ:Value→Prop,ψ v→k.ex ψ:=by
 cases k <;> (obtain ⟨x,hx⟩:=h; exact ⟨_,hx,fun ψ hψ=>⟨x,hψ⟩⟩)
theorem rdSem_exact {α:Type}:∀ (s:Sem α) (vs:List VK) (h:Hp) (K:α→List VK→Prop),rdSem P s vs h K→∃ a vs',K a vs'∧rdSem P s vs h fun a' _=>a'=a:=by
 intro s
 induction s with
 | pure a=>exact fun vs h K hk=>⟨a,vs,hk,rfl⟩
 | load m a k ih =>
  intro vs h K hk
  obtain ⟨v,⟨hv,hr⟩,keep⟩:=VK.ex_keep hk
  obtain ⟨x,vs',hK,hx⟩:=ih v _ _ _ hr
  exact ⟨x,vs',hK,keep _ ⟨hv,hx⟩⟩
 | shape r k ih=>exact fun vs h K hk=>ih _ vs h K hk
 | getObj r k ih =>
  intro vs h K hk
  obtain ⟨o,ho,hn,hr⟩:=hk
  obtain ⟨x,vs',hK,hx⟩:=ih o _ _ _ hr
  exact ⟨x,vs',hK,o,ho,hn,hx⟩
 | program k ih=>exact fun vs h K hk=>ih _ vs h K hk
 | _=>exact fun vs h K hk=>hk.elim
theorem run_call {o:Oper} {c:Call} {f:Operand} {env:List Value} {g:FuncId} {first captured:Array Value} (hop:o.op=.call c) (hf:c.callee=.value f) (hv:evalL env f=.func (.func g) first captured)
  (hg:Callable P g) (w:World):(execOp (evalL env) o).run P w=.ok (.enter g (first.toList ++ c.args.toList.map (evalL env) ++ captured.toList).toArray) w:=by
 have ha:first ++ c.args.map (evalL env) ++ captured=(first.toList ++ c.args.toList.map (evalL env) ++ captured.toList).toArray:=by
  apply Array.ext'
  simp
 simp only [execOp,hop,run_bind,resolve,hf,hv,Deferred.ofValue,run_pure,invoke]
 rw [ha,hg]
theorem run_invoke (hT:TabOk P T) {o:Oper} {c:Call} {r:Operand} {m:String} {env:List Value} {t:TypeId} {f:FuncId} {a:Option Addr} (hop:o.op=.call c) (hr:c.callee=.invoke r m) (hm:T.meth m=some (t,f))
  (ha:evalL env r=.iface t (.pointer a)) (w:World):(execOp (evalL env) o).run P w=.ok (.enter f (.pointer a :: c.args.toList.map (evalL env)).toArray) w:=by
 have hg:=hT.meth m t f hm
 simp only [execOp,hop,run_bind,resolve,hr,ha,run_pure,invoke]
 have e0:(#[Value.iface t (.pointer a)] ++ c.args.map (evalL env))[0]?=some (Value.iface t (.pointer a)):=by
  rw [Array.getElem?_append_left (by simp)]
  rfl
 have ha':#[Value.pointer a] ++ (#[Value.iface t (.pointer a)] ++ c.args.map (evalL env)).extract 1 (#[Value.iface t (.pointer a)] ++ c.args.map (evalL env)).size=(.pointer a :: c.args.toList.map (evalL env)).toArray:=by
  apply Array.ext'
  simp [List.take_of_length_le]
 simp only [e0]
 rw [hg,ha']
theorem quiet_call {f:FuncId} {args:Array Value} {v:Value} {w:World} (h:CallTo P f args w.heap fun v' h'=>v'=v∧h'=w.heap) :
  Calls P f args w fun e w'=>e=.returned v∧Same w w'∧w'.heap=w.heap :=
 (h w rfl).mono fun _ _ ⟨_,he,hs,hv,hh⟩=>⟨by rw [he,hv],hs,hh⟩
theorem conv_run {o:Oper} {src dst e:TypeId} {x:Operand} {env:List Value} {w:World} {a:Option Addr} {n c:Nat} {s:ByteArray} (hop:o.op=.convert src dst x) (hx:evalL env x=.slice a n c)
  (hs:P.underlying src=some (.slice e)) (hd:P.underlying dst=some .string) (he:P.underlying e=some (.int .u8)) (h:Spells w.heap a n s):(execOp (evalL env) o).run P w=.ok (.value (.string s)) w:=by
 obtain ⟨hn,hr⟩:=h
 simp only [execOp,hop,hx,run_bind,Go.run_convert_bytes_string w src dst e a n c hs he hd]
 cases a with
 | none =>
  have h0:s.data.toList=[]:=List.map_eq_nil_iff.1 hr
  have:s=ByteArray.empty:=by
   cases s with
   | mk d=>simp only [Array.toList_eq_nil_iff] at h0; subst h0; rfl
  subst this
  rfl
 | some a =>
  have hl:(s.data.toList.map fun b=>Value.int .u8 b.toNat).length=n:=by simp [← hn]
  have h1:=run_loadCells (P:=P) hr hl
  have e1:(s.data.toList.map fun b=>Value.int .u8 b.toNat)=(s.data.toList.map fun b=>(b.toNat:Int)).map (Value.int .u8):=by simp
  rw [e1] at h1
  rw [Go.run_bytesToString w a n c _ h1,foldl_push]
  simp only [run_pure]
  congr 3
  cases s
  simp
theorem evQ_sound (hT:TabOk P T) {o:Oper} {env:List Value} {h:Hp} {K:Value→Option (Hp→Prop)→Prop} (hq:evQ P T o env h K) :
  ∃ v S,K v S∧(S.getD (fun _=>True)) h∧∀ w:World,(S.getD (fun _=>True)) w.heap→((execOp (evalL env) o).run P w=.ok (.value v) w ∨ ∃ f args,(execOp (evalL env) o).run P w=.ok (.enter f args) w ∧
   Calls P f args w fun e w'=>e=.returned v∧Same w w'∧w'.heap=w.heap):=by
 unfold evQ at hq
 split at hq
 ·obtain ⟨v,hv,hk⟩:=evPureM_sound hT hq
  exact ⟨v,none,hk,trivial,fun w _=>.inl (hv w)⟩
 ·rename_i a n hcls
  obtain ⟨s,hsp,hk⟩:=hq
  refine ⟨_,_,hk,hsp,fun w' hS=>.inl ?_⟩
  unfold clsOf at hcls
  split at hcls <;> first | (cases hcls; done) | skip
  ·rename_i src dst x hop
   obtain ⟨c,e,hx,hs,hd,he⟩:=convCls_conv hcls
   exact conv_run hop hx hs hd he hS
  ·split at hcls
   ·split at hcls
    ·cases hcls
    ·split at hcls
     ·split at hcls <;> cases hcls
     ·cases hcls
   ·split at hcls
    ·split at hcls <;> cases hcls
    ·cases hcls
   ·cases hcls
   ·cases hcls
   ·cases hcls
   ·cases hcls
   ·cases hcls
 ·obtain ⟨nx,vs,hk,hr⟩:=rdSem_exact _ _ _ _ hq
  cases nx <;> first | exact hk.elim | skip
  rename_i v
  refine ⟨v,_,hk,hr,fun w' hS=>?_⟩
  obtain ⟨nx',vs',hr',hk'⟩:=rdSem_sound _ _ _ _ hS
  rw [hk'] at hr'
  exact .inl hr'
 ·rename_i t x key co hcls
  split at hq
  ·rename_i kt et ht
   unfold rk1 at hq
   split at hq
   ·obtain ⟨v,ok,hg,hk⟩:=RK.ex_some hq
    refine ⟨_,_,hk,hg,fun w' hS=>.inl ?_⟩
    unfold clsOf at hcls
    split at hcls <;> first | (cases hcls; done) | (exact absurd hcls convCls_nl) | skip
    ·rename_i t' xo ko co' hop
     simp only [Cls.look.injEq] at hcls
     obtain ⟨rfl,rfl,rfl,rfl⟩:=hcls
     simp only [execOp,hop,run_bind,run_lookup ht hS,run_pure]
    ·split at hcls
     ·split at hcls
      ·cases hcls
      ·split at hcls
       ·split at hcls <;> cases hcls
       ·cases hcls
     ·split at hcls
      ·split at hcls <;> cases hcls
      ·cases hcls
     ·cases hcls
     ·cases hcls
     ·cases hcls
     ·cases hcls
     ·cases hcls
   ·exact hq.elim
  ·exact hq.elim
 ·rename_i f args hcls
  obtain ⟨hc,hq⟩:=Cond_true' hq
  obtain ⟨v,hcall,hk⟩:=resEx_some hq
  have hg:=hT.callee f hc
  refine ⟨v,_,hk,hcall,fun w' hS=>.inr ⟨f,args.toArray,?_,quiet_call hS⟩⟩
  unfold clsOf at hcls
  split at hcls <;> first | (cases hcls; done) | (exact absurd hcls convCls_nq) | (exact absurd hcls convCls_ni) | skip
  rename_i c hop
  split at hcls
  ·rename_i f' hf
   split at hcls
   ·cases hcls
   split at hcls
   ·rename_i g first captured hv
    split at hcls
    ·simp only [Cls.qcall.injEq] at hcls
     obtain ⟨rfl,rfl⟩:=hcls
     exact run_call hop hf hv hg w'
    ·cases hcls
   ·cases hcls
  ·split at hcls
   ·split at hcls <;> cases hcls
   ·cases hcls
  ·cases hcls
  ·cases hcls
  ·cases hcls
  ·cases hcls
  ·cases hcls
 ·rename_i f t recv args hcls
  obtain ⟨a,ha,hq⟩:=hq
  obtain ⟨v,hcall,hk⟩:=resEx_some hq
  refine ⟨v,_,hk,hcall,fun w' hS=>.inr ⟨f,_,?_,quiet_call hS⟩⟩
  unfold clsOf at hcls
  split at hcls <;> first | (cases hcls; done) | (exact absurd hcls convCls_nq) | (exact absurd hcls convCls_ni) | skip
  rename_i c hop
  split at hcls
  ·split at hcls
   ·cases hcls
   ·split at hcls
    ·split at hcls <;> cases hcls
    ·cases hcls
  ·rename_i r m hr
   split at hcls
   ·rename_i t' f' hm
    split at hcls
    ·simp only [Cls.qinvoke.injEq] at hcls
     obtain ⟨rfl,rfl,rfl,rfl⟩:=hcls
     exact run_invoke hT hop hr hm ha w'
    ·cases hcls
   ·cases hcls
  ·cases hcls
  ·cases hcls
  ·cases hcls
  ·cases hcls
  ·cases hcls
 ·exact hq.elim
end
end Go.Ev
set_option linter.all false
namespace Go.Ev
section
variable {P:Program} {T:Tab} {D:List Deferred} {w0:World}
theorem wpP_triv {ops:Array Oper} {Q:Exit→Act→World→Prop}:∀ (fuel:Nat) (ps ps':List Pend) (listed:Array Bool) (a:Act) (h:Hp),(∀ p ∈ ps',p ∈ ps ∨ ∀ h,p.S h) →
  wpP P ops Q w0 fuel ps listed a h→wpP P ops Q w0 fuel ps' listed a h
 | 0,_,_,_,_,_,_,H=>H
 | fuel + 1,ps,ps',_,_,_,hsub,H=>fun w hs hw=>⟨(H w hs hw).1,fun j o hj ho=>by
   have hsub':∀ p ∈ runL ps' o,p ∈ runL ps o ∨ ∀ h,p.S h:=fun p hp=>by
    obtain ⟨hp,hw⟩:=List.mem_filter.1 hp
    exact (hsub p hp).imp (fun h=>List.mem_filter.2 ⟨h,hw⟩) id
   exact wpOp_mono (fun a' w' h'=>⟨h'.1,fun p hp=>(hsub' p hp).elim (h'.2.1 p) (fun h=>h _),wpP_triv fuel _ _ _ a' _ hsub' h'.2.2⟩) ((H w hs hw).2 j o hj ho)⟩
theorem oblK_sound {o:Oper} {h:Hp}:∀ (ps:List Pend) (X:List Pend→Prop),oblK o h ps X→(∀ p ∈ runL ps o,p.S h)∧X (runL ps o):=by
 intro ps
 induction ps with
 | nil=>exact fun X hX=>⟨fun p hp=>(by cases hp),hX⟩
 | cons p ps ih =>
  intro X hX
  rcases Cond.split hX with ⟨hw,hX⟩ | ⟨hw,hS,hX⟩
  ·obtain ⟨h1,h2⟩:=ih X hX
   have e:runL (p :: ps) o=runL ps o:=List.filter_cons_of_neg (by simp [hw])
   rw [e]
   exact ⟨h1,h2⟩
  ·obtain ⟨h1,h2⟩:=ih _ hX
   have e:runL (p :: ps) o=p :: runL ps o:=List.filter_cons_of_pos (by simp [hw])
   rw [e]
   refine ⟨fun q hq=>?_,h2⟩
   rcases List.mem_cons.1 hq with rfl | hq
   ·exact hS
   ·exact h1 q hq
theorem allL_mem {φ:Nat→Prop}:∀ {l:List Nat},allL l φ→∀ i ∈ l,φ i
 | [],_,_,hi=>by cases hi
 | [i],h,j,hj=>by
  rw [List.mem_singleton] at hj
  rw [hj]; exact h
 | i :: j :: l,h,k,hk=>by
  rcases List.mem_cons.1 hk with rfl | hk
  ·exact h.1
  ·exact allL_mem h.2 k hk
theorem evR_sound (hT:TabOk P T) {ops:Array Oper} {Q:Kc} (hsel:Region.noSelect ops=true):∀ (fuel:Nat) (ps:List Pend) (listed:Array Bool) (env:List Value) (h:Hp),(∀ p ∈ ps,p.S h) →
  evR P T ops (Q .normal) fuel ps listed env h→wpP P ops (lift D w0 Q) w0 fuel ps listed (actL env D) h:=by
 intro fuel
 induction fuel with
 | zero =>
  intro ps listed env h _ H
  unfold evR at H
  split at H
  ·rename_i hr
   exact ⟨hr,fun w hs hw=>⟨hs,env,rfl,hw ▸ H⟩⟩
  ·exact H.elim
 | succ fuel ih =>
  intro ps listed env h hps H
  unfold evR at H
  split at H
  ·rename_i i hfind
   have hi:i ∈ Region.ready .any ops listed:=List.mem_of_find?_eq_some hfind
   split at H
   ·rename_i o ho
    obtain ⟨hfree,H⟩:=Cond_true' H
    have hhyp:∀ S:Hp→Prop,S h→∀ p ∈ hypL ps i o,p.S h:=fun S _ p hp=>by
     obtain ⟨q,hq,rfl⟩:=List.mem_map.1 hp
     exact hps q hq
    have etm:(actL env D).tmps=env.toArray:=rfl
    rcases evG_sound H with ⟨hw,H⟩ | ⟨hw,H⟩
    ·obtain ⟨v,S,hR,hS,hrun⟩:=evQ_sound hT H
     have hy:YS P ops w0 (S.getD fun _=>True) o v (actL env D):=.inl ⟨by rw [etm]; exact hw,fun w _ hS=>by rw [eval_actL]; exact hrun w hS⟩
     refine wpP_first ho (Region.noSelect_spec hsel) (fun c a w h=>h.2.elim fun _ h=>h.2) fuel ps listed (actL env D) h (Region.free_spec ho hfree) hi hy hS hps ?_
     rw [put_actL]
     cases S with
     | none =>
      refine wpP_triv fuel (hypL ps i o) _ _ _ _ (fun p hp=>?_) (ih _ _ _ _ (hhyp (fun _=>True) trivial) hR)
      rcases List.mem_cons.1 hp with rfl | hp
      ·exact .inr fun _=>trivial
      ·exact .inl hp
     | some S =>
      refine ih _ _ _ _ (fun p hp=>?_) hR
      rcases List.mem_cons.1 hp with rfl | hp
      ·exact hS
      ·exact hhyp S hS p hp
    ·have hy:YS P ops w0 (fun _=>True) o undef (actL env D):=.inr ⟨by rw [etm]; exact hw,rfl⟩
     refine wpP_first ho (Region.noSelect_spec hsel) (fun c a w h=>h.2.elim fun _ h=>h.2) fuel ps listed (actL env D) h (Region.free_spec ho hfree) hi hy trivial hps ?_
     rw [put_actL]
     refine wpP_triv fuel (hypL ps i o) _ _ _ _ (fun p hp=>?_) (ih _ _ _ _ (hhyp (fun _=>True) trivial) H)
     rcases List.mem_cons.1 hp with rfl | hp
     ·exact .inr fun _=>trivial
     ·exact .inl hp
   ·exact H.elim
  ·split at H
   ·rename_i hr
    intro w hs hw
    refine ⟨fun _=>⟨hs,env,rfl,hw ▸ H⟩,fun j o hj=>?_⟩
    rw [hr] at hj
    cases hj
   ·rename_i r rs hr
    intro w hs hw
    refine ⟨fun h0=>(by rw [hr] at h0; cases h0),fun j o hj ho=>?_⟩
    rw [hr] at hj
    have H:=allL_mem H j hj
    simp only [ho] at H
    unfold wpOp
    simp only [ho]
    have etm:(actL env D).tmps=env.toArray:=rfl
    rw [etm]
    subst hw
    rcases evG_sound H with ⟨hw,H⟩ | ⟨hw,H⟩
    ·rw [if_pos hw]
     refine .inl (OpOk.wp hs (evOp_sound hT H) fun v w' hs' hk=>?_)
     obtain ⟨h1,h2⟩:=oblK_sound _ _ hk
     exact ⟨hs',h1,ih _ _ _ _ h1 h2⟩
    ·rw [hw]
     simp only [Bool.false_eq_true,if_false]
     rw [put_actL]
     obtain ⟨h1,h2⟩:=oblK_sound _ _ H
     exact ⟨hs,h1,ih _ _ _ _ h1 h2⟩

/-! ### Code -/
/-- What a piece of code owes: it is as the evaluator says from every world of that heap. -/
def CodeOk (P:Program) (D:List Deferred) (w0:World) (c:Code) (ev:Kc→List Value→Hp→Prop):Prop :=
 ∀ (Q:Kc) (env:List Value) (w:World),Same w0 w→ev Q env w.heap→c.wp P (lift D w0 Q) (actL env D) w
theorem wp_loopEv {c:Code} {Q:Exit→Act→World→Prop} {a:Act} {w:World} (I:Nat→Act→World→Prop) (n:Nat) (h0:I n a w)
  (round:∀ n a w,I n a w→c.wp P (Exit.then (fun a' w'=>∃ m,m < n∧I m a' w') Q) a w):(Code.loop c).wp P Q a w:=by
 intro b k cs
 have key:∀ n a w,I n a w →
   ∃ e a' w',Q e a' w'∧Arrives P (lone (b.at a (.code c :: .inLoop c :: k)) cs w) b k cs e a' w':=by
  intro n
  induction n using Nat.strongRecOn with
  | _ n ih =>
   intro a w hI
   obtain ⟨e,a₁,w₁,hq,harr⟩:=round n a w hI b (.inLoop c :: k) cs
   cases e with
   | normal =>
    obtain ⟨m,hlt,hI₁⟩:=hq
    obtain ⟨e₂,a₂,w₂,hq₂,harr₂⟩:=ih m hlt a₁ w₁ hI₁
    exact ⟨e₂,a₂,w₂,hq₂,.of_steps (Steps.trans harr (.one step_inLoop)) harr₂⟩
   | exit id=>exact ⟨_,a₁,w₁,hq,.pass (x:=.inLoop c) rfl (fun _ _=>.inl (by simp)) harr⟩
   | goto l=>exact ⟨_,a₁,w₁,hq,.pass (x:=.inLoop c) rfl (fun _ _=>.inl (by simp)) harr⟩
   | ret=>exact ⟨_,a₁,w₁,hq,.pass (x:=.inLoop c) rfl (fun _ _=>.inl (by simp)) harr⟩
   | panic ch=>exact ⟨_,a₁,w₁,hq,.pass (x:=.inLoop c) rfl (fun _ _=>.inl (by simp)) harr⟩
   | outgrown=>exact ⟨_,a₁,w₁,hq,.pass (x:=.inLoop c) rfl (fun _ _=>.inl (by simp)) harr⟩
 obtain ⟨e,a',w',hq,harr⟩:=key n a w h0
 exact ⟨e,a',w',hq,.of_steps (.one step_loop) harr⟩
/-- No select in any region that draws. -/
def noSel:Code→Bool
 | .seq a b=>noSel a && noSel b
 | .cond _ a b=>noSel a && noSel b
 | .block _ c=>noSel c
 | .loop c=>noSel c
 | .region _ ops draw=>!draw || Region.noSelect ops
 | _=>true
theorem evC_sound {lv:Nat→List Nat} (hm:P.follows .mixedOrders=true) (hT:TabOk P T):∀ (c:Code),noSel c=true→CodeOk P D w0 c (evC P T lv c):=by
 intro c
 induction c with
 | skip=>exact fun _ Q env w hs h=>wp_skip ⟨hs,env,rfl,h⟩
 | ret=>exact fun _ Q env w hs h=>wp_ret ⟨hs,env,rfl,h⟩
 | exit id=>exact fun _ Q env w hs h=>wp_exit ⟨hs,env,rfl,h⟩
 | seq a b iha ihb =>
  intro hn Q env w hs h
  simp only [noSel,Bool.and_eq_true] at hn
  refine wp_seq (wp_mono (iha hn.1 _ env w hs h) fun e a' w' hl=>?_)
  obtain ⟨hs',env',rfl,hl⟩:=hl
  cases e <;> first | exact hl.elim | exact ⟨hs',env',rfl,hl⟩ | exact ihb hn.2 Q env' w' hs' hl
 | cond c a b iha ihb =>
  intro hn Q env w hs h
  simp only [noSel,Bool.and_eq_true] at hn
  unfold evC at h
  split at h
  ·rename_i t hc
   have hc':(actL env D).eval c=.bool t:=by rw [eval_actL]; exact hc
   rcases h.split with ⟨rfl,hx⟩ | ⟨rfl,hx⟩
   ·exact wp_cond_true hc' (iha hn.1 Q env w hs hx)
   ·exact wp_cond_false hc' (ihb hn.2 Q env w hs hx)
  ·exact h.elim
 | block id c ih =>
  intro hn Q env w hs h
  refine wp_block (wp_mono (ih hn _ env w hs h) fun e a' w' hl=>?_)
  obtain ⟨hs',env',rfl,hl⟩:=hl
  cases e with
  | exit id' =>
   show if id'=id then _ else _
   simp only [blockK] at hl
   split at hl
   ·rename_i hid; rw [if_pos hid]; exact ⟨hs',env',rfl,hl⟩
   ·rename_i hid; rw [if_neg hid]; exact ⟨hs',env',rfl,hl⟩
  | _=>first | exact hl.elim | exact ⟨hs',env',rfl,hl⟩
 | loop c ih =>
  intro hn Q env w hs h
  obtain ⟨I,n,hg,round⟩:=h
  have h0:I n env w.heap:=by
   have:=hg fun k=>env.getD k undef
   have e:mkEnv env.length (pairsOf (lv (firstR c)) env) (fun k=>env.getD k undef)=env:=mkEnv_self _ _
   rwa [e] at this
  refine wp_loopEv (fun n a w=>Same w0 w∧∃ env,a=actL env D∧I n env w.heap) n ⟨hs,env,rfl,h0⟩ fun n a w hI=>?_
  obtain ⟨hs',env',rfl,hI⟩:=hI
  refine wp_mono (ih hn _ env' w hs' (round n env' w.heap hI)) fun e a' w' hl=>?_
  obtain ⟨hs'',env'',rfl,hl⟩:=hl
  cases e <;> first | exact hl.elim | exact ⟨hs'',env'',rfl,hl⟩ | (obtain ⟨m,hlt,hm⟩:=hl; exact ⟨m,hlt,hs'',env'',rfl,hm⟩)
 | region id ops draw =>
  intro hn Q env w hs h
  unfold evC at h
  cases draw with
  | false =>
   simp only [Bool.false_eq_true,if_false] at h
   refine wp_region ?_
   have:=evOps_sound (P:=P) (D:=D) (w0:=w0) hT (ops:=ops) ops.toList 0 env w (fun i=>by simp) hs h
   rw [Array.length_toList] at this
   rwa [List.range_eq_range']
  | true =>
   simp only [if_true] at h
   have hsel:Region.noSelect ops=true:=by simpa [noSel] using hn
   refine wp_region_any hm ?_
   exact wpAny_of_P ops.size [] _ _ { w with drawn:=w.drawn + 1 } ⟨hs.1,hs.2.1,hs.2.2⟩ (evR_sound hT hsel ops.size [] _ env w.heap (fun p hp=>by cases hp) h)
 | _=>exact fun _ Q env w hs h=>h.elim

/-! ### Calls -/
def bodyK (P:Program) (fn:Func) (hints:List VK) (R:Value→Hp→Prop):Kc
 | .normal,env,h=>rdSem P (results fn env.toArray) hints h fun v _=>R v h
 | .ret,env,h=>rdSem P (results fn env.toArray) hints h fun v _=>R v h
 | _,_,_=>False
def envOf (fn:Func) (args:List Value):List Value:=args ++ List.replicate (fn.ntmps - args.length) undef
def evF (P:Program) (T:Tab) (lv:Nat→List Nat) (fn:Func) (c:Code) (hints:List VK) (args:List Value) (h:Hp) (R:Value→Hp→Prop):Prop :=
 evC P T lv c (bodyK P fn hints R) (envOf fn args) h
theorem callTo_of_ev {lv:Nat→List Nat} (hm:P.follows .mixedOrders=true) (hT:TabOk P T) {f:FuncId} {fn:Func} {c:Code} {hints:List VK} {args:List Value} {h:Hp} {R:Value→Hp→Prop} (hf:P.funcs[f]?=some fn) (hb:fn.body=some c)
  (hn:noSel c=true) (he:evF P T lv fn c hints args h R):CallTo P f args.toArray h R:=by
 intro w hw
 subst hw
 refine calls_of_wp hf hb ?_
 have key:=evC_sound (D:=[]) (w0:=w) hm hT c hn _ _ w (Same.refl _) he
 have e:({ tmps:=args.toArray ++ Array.replicate (fn.ntmps - args.toArray.size) undef,defers:=[] }:Act)=actL (envOf fn args) []:=by
  unfold actL envOf
  congr 1
  apply Array.ext'
  simp
 rw [e]
 refine wp_mono key fun e a w' hl=>?_
 obtain ⟨hs,env,rfl,hl⟩:=hl
 cases e <;> first | exact hl.elim | skip
 all_goals
  obtain ⟨v,vs,hr,hk⟩:=rdSem_sound _ _ _ _ hl
  exact ⟨rfl,v,hr,v,rfl,hs,hk⟩
end
end Go.Ev
set_option linter.all false
namespace Go.Ev
/-! ### The words of the printed functions -/
def Let {α:Type} (x:α) (K:α→Prop):Prop:=K x
/-- The address of the next new block. -/
def nb (h:Hp):Addr:=⟨h.size,0,none⟩
def andI (k:IntKind) (x y:Int):Int:=k.wrap ((BitVec.ofInt k.bits x &&& BitVec.ofInt k.bits y).toNat:Int)
def orI (k:IntKind) (x y:Int):Int:=k.wrap ((BitVec.ofInt k.bits x ||| BitVec.ofInt k.bits y).toNat:Int)
def andNotI (k:IntKind) (x y:Int):Int:=k.wrap ((BitVec.ofInt k.bits x &&& ~~~(BitVec.ofInt k.bits y)).toNat:Int)
def appT (e sz bys:Nat) (z:Array Value) (base:Option Addr) (n c need:Nat) (news:List Value) (h:Hp) (K:Option Addr→Nat→Nat→Hp→Prop):Prop :=
 (need ≤ c→fromBase h base (n * sz) news fun h'=>K base need c h') ∧
 (c < need→(2 * need + 768) * bys ≤ 2 ^ 48∧need < 2 ^ 62∧∃ olds,ReadsO h base olds∧olds.length=n * sz ∧
  ∀ nc,need ≤ nc→nc < 2 ^ 63→K (some ⟨h.size,0,none⟩) need nc (h.push (.cells (olds.toArray ++ news.toArray ++ zrow z ((nc - need) * z.size)) e)))
def appSl (e sz bys:Nat) (z:Array Value) (base:Option Addr) (n c:Nat) (b2:Option Addr) (m:Nat) (h:Hp) (K:Option Addr→Nat→Nat→Hp→Prop):Prop :=
 ∃ news,ReadsO h b2 news∧news.length=m * sz∧appT e sz bys z base n c (n + m) news h K
def appZ (e sz bys:Nat) (z:Array Value) (base:Option Addr) (n c:Nat) (m:Int) (h:Hp) (K:Option Addr→Nat→Nat→Hp→Prop):Prop :=
 (0 ≤ m∧m < 2 ^ 62)∧m * bys ≤ 2 ^ 48∧appT e sz bys z base n c (n + m.toNat) (zrow z (m.toNat * z.size)).toList h K
def cpySl (sz:Nat) (base:Option Addr) (n:Nat) (b2:Option Addr) (m:Nat) (h:Hp) (K:Int→Hp→Prop):Prop :=
 ∃ news,ReadsO h b2 news∧news.length=min m n * sz∧fromBase h base 0 news fun h'=>K (min m n:Nat) h'
/-! ### Places in a function's code -/
def sub:List Nat→Code→Code
 | [],c=>c
 | 0 :: π,.seq a _=>sub π a
 | _ :: π,.seq _ b=>sub π b
 | 0 :: π,.cond _ a _=>sub π a
 | _ :: π,.cond _ _ b=>sub π b
 | _ :: π,.block _ c=>sub π c
 | _ :: π,.loop c=>sub π c
 | _,c=>c
/-- What a piece of the code goes on with. 'lk': of the loops on the way, from without. -/
def contAt (P:Program) (T:Tab) (lv:Nat→List Nat):List Nat→Code→List (Kc→Kc)→Kc→Kc
 | [],_,_,Q=>Q
 | 0 :: π,.seq a b,lk,Q=>contAt P T lv π a lk (seqK (evC P T lv b Q) Q)
 | _ :: π,.seq _ b,lk,Q=>contAt P T lv π b lk Q
 | 0 :: π,.cond _ a _,lk,Q=>contAt P T lv π a lk Q
 | _ :: π,.cond _ _ b,lk,Q=>contAt P T lv π b lk Q
 | _ :: π,.block id c,lk,Q=>contAt P T lv π c lk (blockK id Q)
 | _ :: π,.loop c,k :: lk,Q=>contAt P T lv π c lk (k Q)
 | _,_,_,Q=>Q

/-! ### A frame at a loop's head: known slots, and others -/
def DecI (k:IntKind) (env:List Value) (s:Nat) (K:Int→Prop):Prop:=match env[s]? with | some (.int k' n)=>Cond (k == k') (K n) False | _=>False
def DecB (env:List Value) (s:Nat) (K:Bool→Prop):Prop:=match env[s]? with | some (.bool b)=>K b | _=>False
def DecP (env:List Value) (s:Nat) (K:Option Addr→Prop):Prop:=match env[s]? with | some (.pointer p)=>K p | _=>False
def DecA (env:List Value) (s:Nat) (K:Addr→Prop):Prop:=match env[s]? with | some (.pointer (some p))=>K p | _=>False
def DecL (env:List Value) (s:Nat) (K:Sl→Prop):Prop:=match env[s]? with | some (.slice a n c)=>K ⟨a,n,c⟩ | _=>False
def DecS (env:List Value) (s:Nat) (K:ByteArray→Prop):Prop:=match env[s]? with | some (.string b)=>K b | _=>False
def DecM (env:List Value) (s:Nat) (K:Option Nat→Prop):Prop:=match env[s]? with | some (.map r)=>K r | _=>False
def DecV (env:List Value) (s:Nat) (K:Value→Prop):Prop:=match env[s]? with | some v=>K v | _=>False
def lenIs (env:List Value) (n:Nat) (K:Prop):Prop:=Cond (env.length == n) K False
theorem DecI.out {k:IntKind} {env:List Value} {s:Nat} {K:Int→Prop} (h:DecI k env s K):∃ n,env[s]?=some (.int k n)∧K n:=by
 unfold DecI at h
 split at h
 ·rename_i k' n he
  obtain ⟨hk,hc⟩:=Cond_true' h
  obtain rfl:k=k':=by simpa using hk
  exact ⟨n,he,hc⟩
 ·exact h.elim
theorem DecB.out {env:List Value} {s:Nat} {K:Bool→Prop} (h:DecB env s K):∃ n,env[s]?=some (.bool n)∧K n:=by
 unfold DecB at h; split at h
 ·exact ⟨_,‹_›,h⟩
 ·exact h.elim
theorem DecP.out {env:List Value} {s:Nat} {K:Option Addr→Prop} (h:DecP env s K):∃ n,env[s]?=some (.pointer n)∧K n:=by
 unfold DecP at h; split at h
 ·exact ⟨_,‹_›,h⟩
 ·exact h.elim
theorem DecA.out {env:List Value} {s:Nat} {K:Addr→Prop} (h:DecA env s K):∃ n,env[s]?=some (.pointer (some n))∧K n:=by
 unfold DecA at h; split at h
 ·exact ⟨_,‹_›,h⟩
 ·exact h.elim
theorem DecL.out {env:List Value} {s:Nat} {K:Sl→Prop} (h:DecL env s K):∃ n:Sl,env[s]?=some (.slice n.a n.n n.c)∧K n:=by
 unfold DecL at h; split at h
 ·exact ⟨⟨_,_,_⟩,‹_›,h⟩
 ·exact h.elim
theorem DecS.out {env:List Value} {s:Nat} {K:ByteArray→Prop} (h:DecS env s K):∃ n,env[s]?=some (.string n)∧K n:=by
 unfold DecS at h; split at h
 ·exact ⟨_,‹_›,h⟩
 ·exact h.elim
theorem DecM.out {env:List Value} {s:Nat} {K:Option Nat→Prop} (h:DecM env s K):∃ n,env[s]?=some (.map n)∧K n:=by
 unfold DecM at h; split at h
 ·exact ⟨_,‹_›,h⟩
 ·exact h.elim
theorem DecV.out {env:List Value} {s:Nat} {K:Value→Prop} (h:DecV env s K):∃ n,env[s]?=some n∧K n:=by
 unfold DecV at h; split at h
 ·exact ⟨_,‹_›,h⟩
 ·exact h.elim
theorem callable_of {P:Program} {f:FuncId} {fn:Func} (hf:P.funcs[f]?=some fn) (hn:(fn.name == "runtime.NumGoroutine")=false) (hb:fn.body.isSome=true):Callable P f:=by
 intro args w
 unfold callFunc
 simp only [run_bind,run_program,hf,hn,Bool.false_eq_true,if_false]
 have hb':fn.body.isNone=false:=by cases h:fn.body <;> simp_all
 simp only [hb',Bool.false_eq_true,if_false,run_pure]
end Go.Ev
set_option linter.all false
namespace Go.Ev
/-! ### Numbers -/
theorem wrap_i64_eq (x:Int):IntKind.wrap .i64 x=if 9223372036854775808 ≤ x % 18446744073709551616 then x % 18446744073709551616 - 18446744073709551616 else x % 18446744073709551616:=by
 unfold IntKind.wrap
 simp [IntKind.bits,IntKind.signed]
theorem wrap_u64_eq (x:Int):IntKind.wrap .u64 x=x % 18446744073709551616:=by
 unfold IntKind.wrap
 simp [IntKind.bits,IntKind.signed]
theorem wrap_i64' {x:Int} (h0:-9223372036854775808 ≤ x) (h1:x < 9223372036854775808):IntKind.wrap .i64 x=x:=by
 rw [wrap_i64_eq]
 split <;> omega
theorem wrap_u64' {x:Int} (h0:0 ≤ x) (h1:x < 18446744073709551616):IntKind.wrap .u64 x=x:=by
 rw [wrap_u64_eq]
 omega
theorem wrap_u8' {x:Int}:IntKind.wrap .u8 x=x % 256:=by
 unfold IntKind.wrap
 simp [IntKind.bits,IntKind.signed]
theorem bv_ofNat (n:Nat):BitVec.ofInt 64 (n:Int)=BitVec.ofNat 64 n:=by
 apply BitVec.eq_of_toNat_eq
 simp
theorem andI_nat {a b:Nat} (ha:a < 18446744073709551616) (hb:b < 18446744073709551616):andI .u64 (a:Int) (b:Int)=((a &&& b:Nat):Int):=by
 show IntKind.wrap .u64 (((BitVec.ofInt 64 (a:Int) &&& BitVec.ofInt 64 (b:Int):BitVec 64).toNat:Nat):Int)=_
 rw [bv_ofNat,bv_ofNat,BitVec.toNat_and,BitVec.toNat_ofNat,BitVec.toNat_ofNat,Nat.mod_eq_of_lt ha,Nat.mod_eq_of_lt hb]
 exact wrap_u64' (by omega) (by have:=Nat.and_le_left (n:=a) (m:=b); omega)
theorem orI_nat {a b:Nat} (ha:a < 18446744073709551616) (hb:b < 18446744073709551616):orI .u64 (a:Int) (b:Int)=((a ||| b:Nat):Int):=by
 show IntKind.wrap .u64 (((BitVec.ofInt 64 (a:Int) ||| BitVec.ofInt 64 (b:Int):BitVec 64).toNat:Nat):Int)=_
 rw [bv_ofNat,bv_ofNat,BitVec.toNat_or,BitVec.toNat_ofNat,BitVec.toNat_ofNat,Nat.mod_eq_of_lt ha,Nat.mod_eq_of_lt hb]
 have:a ||| b < 2 ^ 64:=Nat.or_lt_two_pow (by simpa using ha) (by simpa using hb)
 exact wrap_u64' (by omega) (by omega)
theorem testBit_lt {n k:Nat} (h:n < 2 ^ k):∀ j,k ≤ j→n.testBit j=false:=fun j hj =>
 Nat.testBit_lt_two_pow (Nat.lt_of_lt_of_le h (Nat.pow_le_pow_right (by omega) hj))
theorem testBit_63 (i:Nat):(9223372036854775808:Nat).testBit i=decide (i=63):=by
 rw [show (9223372036854775808:Nat)=2 ^ 63 by decide,Nat.testBit_two_pow]
 rw [Bool.eq_iff_iff]; simp [eq_comm]
theorem and_gone {a:Nat} (ha:a < 18446744073709551616):a &&& 9223372036854775808=if a < 9223372036854775808 then 0 else 9223372036854775808:=by
 apply Nat.eq_of_testBit_eq
 intro i
 rw [Nat.testBit_and,testBit_63]
 by_cases hi:i=63
 ·subst hi
  split
  ·rename_i h
   simp only [decide_true,Bool.and_true,Nat.zero_testBit]
   exact testBit_lt (k:=63) h 63 (Nat.le_refl _)
  ·rename_i h
   simp only [decide_true,Bool.and_true]
   rw [testBit_63,Nat.testBit_eq_decide_div_mod_eq]
   simp
   omega
 ·simp only [hi,decide_false,Bool.and_false]
  split
  ·simp
  ·rw [testBit_63]; simp [hi]
theorem andI_gone {a:Int} (h0:0 ≤ a) (ha:a < 18446744073709551616):andI .u64 a (9223372036854775808:Int)=if a < 9223372036854775808 then 0 else 9223372036854775808:=by
 obtain ⟨n,rfl⟩:=Int.eq_ofNat_of_zero_le h0
 have hn:n < 18446744073709551616:=by omega
 have:=andI_nat (a:=n) (b:=9223372036854775808) hn (by omega)
 rw [show ((9223372036854775808:Nat):Int)=(9223372036854775808:Int) from rfl] at this
 rw [this,and_gone hn]
 by_cases h:n < 9223372036854775808
 ·rw [if_pos h,if_pos (by omega)]; rfl
 ·rw [if_neg h,if_neg (by omega)]; rfl
theorem xor_gone {n:Nat} (hn:n < 18446744073709551616) (hg:9223372036854775808 ≤ n):((BitVec.ofNat 64 n) &&& ~~~(BitVec.ofNat 64 9223372036854775808)).toNat=n - 9223372036854775808:=by
 apply Nat.eq_of_testBit_eq
 intro i
 rw [BitVec.testBit_toNat,BitVec.getLsbD_and,BitVec.getLsbD_not,← BitVec.testBit_toNat,← BitVec.testBit_toNat,BitVec.toNat_ofNat,BitVec.toNat_ofNat,Nat.mod_eq_of_lt hn,Nat.mod_eq_of_lt (by omega),testBit_63]
 have hsub:n=9223372036854775808 + (n - 9223372036854775808):=by omega
 have hm:n - 9223372036854775808 < 2 ^ 63:=by omega
 by_cases hi:i < 64
 ·by_cases h63:i=63
  ·subst h63
   rw [testBit_lt hm 63 (Nat.le_refl _)]; simp
  ·have:n.testBit i=(n - 9223372036854775808).testBit i:=by
    conv=>lhs; rw [hsub,show (9223372036854775808:Nat)=2 ^ 63 by decide]
    rw [Nat.testBit_two_pow_add_gt (by omega)]
   simp [this,h63,hi]
 ·rw [testBit_lt hm i (by omega)]
  rw [testBit_lt (k:=64) (by omega) i (by omega)]; simp
theorem andNotI_gone {a:Int} (h0:9223372036854775808 ≤ a) (ha:a < 18446744073709551616):andNotI .u64 a (9223372036854775808:Int)=a - 9223372036854775808:=by
 obtain ⟨n,rfl⟩:=Int.eq_ofNat_of_zero_le (show (0:Int) ≤ a by omega)
 have e:BitVec.ofInt 64 (9223372036854775808:Int)=BitVec.ofNat 64 9223372036854775808:=bv_ofNat 9223372036854775808
 show IntKind.wrap .u64 (((BitVec.ofInt 64 (n:Int) &&& ~~~(BitVec.ofInt 64 (9223372036854775808:Int)):BitVec 64).toNat:Nat):Int)=_
 rw [e,bv_ofNat,xor_gone (by omega) (by omega)]
 rw [wrap_u64' (by omega) (by omega)]
 omega
theorem or_gone {n:Nat} (hn:n < 9223372036854775808):9223372036854775808 ||| n=9223372036854775808 + n:=by
 rw [show (9223372036854775808:Nat)=2 ^ 63 * 1 by decide]
 exact (Nat.two_pow_add_eq_or_of_lt hn 1).symm
theorem orI_gone {a:Int} (h0:0 ≤ a) (ha:a < 9223372036854775808):orI .u64 (9223372036854775808:Int) a=9223372036854775808 + a:=by
 obtain ⟨n,rfl⟩:=Int.eq_ofNat_of_zero_le h0
 have:=orI_nat (a:=9223372036854775808) (b:=n) (by omega) (by omega)
 rw [show ((9223372036854775808:Nat):Int)=(9223372036854775808:Int) from rfl] at this
 rw [this,or_gone (by omega)]
 rfl
theorem fdiv_pow (n k:Nat):Int.fdiv (n:Int) (2 ^ k)=((n / 2 ^ k:Nat):Int):=by
 rw [Int.fdiv_eq_ediv_of_nonneg _ (by exact Int.pow_nonneg (by omega))]
 norm_cast
theorem tdiv_nn {a b:Int} (h:0 ≤ a):Int.tdiv a b=a / b:=Int.tdiv_eq_ediv_of_nonneg h
theorem tmod_nn {a b:Int} (h:0 ≤ a):Int.tmod a b=a % b:=Int.tmod_eq_emod_of_nonneg h
theorem andI_one {n:Nat} (hn:n < 18446744073709551616):andI .u64 (n:Int) (1:Int)=((n % 2:Nat):Int):=by
 have:=andI_nat (a:=n) (b:=1) hn (by omega)
 rw [show ((1:Nat):Int)=(1:Int) from rfl] at this
 rw [this,Nat.and_one_is_mod]
end Go.Ev
set_option linter.all false
namespace Go.Ev
/-! ### Objects and their words -/
structure AObj where
 kind:Nat
 refs:List Nat
 raws:List Nat
 fwd:Option Nat
def hdw (k r w:Nat):Nat:=k + r * 256 + w * 4294967296
namespace AObj
def head (o:AObj):Nat:=match o.fwd with | none=>hdw o.kind o.refs.length o.raws.length | some t=>9223372036854775808 + t
def flds (o:AObj):List Nat:=o.refs ++ o.raws
def size (o:AObj):Nat:=1 + o.flds.length
def enc (o:AObj):List Nat:=o.head :: o.flds
structure Ok (o:AObj):Prop where
 k1:1 ≤ o.kind
 k2:o.kind ≤ 255
 nr:o.refs.length ≤ 1048576
 nw:o.raws.length ≤ 1048576
 fl:∀ x ∈ o.flds,x < 18446744073709551616
 fw:∀ t,o.fwd=some t→t < 9223372036854775808
def setF (o:AObj) (i v:Nat):AObj:=if i < o.refs.length then { o with refs:=o.refs.set i v } else { o with raws:=o.raws.set (i - o.refs.length) v }
theorem size_eq (o:AObj):o.size=1 + o.refs.length + o.raws.length:=by simp [size,flds]; omega
theorem enc_len (o:AObj):o.enc.length=o.size:=by simp [enc,size]; omega
theorem flds_setF (o:AObj) (i v:Nat):(o.setF i v).flds=o.flds.set i v:=by
 unfold setF flds
 split
 ·rename_i h; simp only; rw [List.set_append_left _ _ h]
 ·rename_i h; simp only; rw [List.set_append_right _ _ (by omega)]
theorem head_setF (o:AObj) (i v:Nat):(o.setF i v).head=o.head:=by
 unfold setF
 split
 ·simp [head]
 ·simp [head]
theorem size_setF (o:AObj) (i v:Nat):(o.setF i v).size=o.size:=by
 simp [size,flds_setF]
theorem head_plain {o:AObj} (h:o.Ok) (hf:o.fwd=none):o.head=hdw o.kind o.refs.length o.raws.length∧o.head < 9223372036854775808:=by
 unfold head
 rw [hf]
 have:=h.k2; have:=h.nr; have:=h.nw
 exact ⟨rfl,by unfold hdw; simp only; omega⟩
end AObj
def wordsOf (os:List AObj):List Nat:=0 :: os.flatMap AObj.enc
def used (os:List AObj):Nat:=(wordsOf os).length
def pos (os:List AObj) (i:Nat):Nat:=used (os.take i)
/-- The number of the object that begins at a place (p: where the first one does). -/
def idxFrom:List AObj→Nat→Nat→Option Nat
 | [],_,_=>none
 | o :: r,p,at_=>if at_=p then some 0 else (idxFrom r (p + o.size) at_).map (· + 1)
def idx (os:List AObj) (at_:Nat):Option Nat:=idxFrom os 1 at_
theorem used_eq (os:List AObj):used os=1 + (os.map AObj.size).sum:=by
 unfold used wordsOf
 rw [List.length_cons,List.length_flatMap]
 have:(os.map fun a=>a.enc.length)=os.map AObj.size:=List.map_congr_left fun o _=>o.enc_len
 rw [this]; omega
theorem used_nil:used []=1:=rfl
theorem used_app (a b:List AObj):used (a ++ b)=used a + used b - 1:=by
 simp only [used_eq,List.map_append,List.sum_append]; omega
theorem used_snoc (os:List AObj) (o:AObj):used (os ++ [o])=used os + o.size:=by
 simp only [used_eq,List.map_append,List.sum_append,List.map_cons,List.map_nil,List.sum_cons,List.sum_nil]; omega
theorem used_pos (os:List AObj):1 ≤ used os:=by rw [used_eq]; omega
theorem wordsOf_snoc (os:List AObj) (o:AObj):wordsOf (os ++ [o])=wordsOf os ++ o.enc:=by
 simp [wordsOf]
theorem size_pos (o:AObj):1 ≤ o.size:=by unfold AObj.size; omega
theorem pos_succ {os:List AObj} {i:Nat} {o:AObj} (h:os[i]?=some o):pos os (i + 1)=pos os i + o.size:=by
 unfold pos
 obtain ⟨hi,he⟩:=List.getElem?_eq_some_iff.1 h
 rw [List.take_add_one,h,Option.toList_some,used_snoc]
theorem pos_ge (os:List AObj) (i:Nat):1 ≤ pos os i:=used_pos _
theorem pos_len (os:List AObj):pos os os.length=used os:=by unfold pos; rw [List.take_length]
theorem pos_mono {os:List AObj} {i j:Nat} (h:i ≤ j):pos os i ≤ pos os j:=by
 unfold pos
 have e:os.take j=os.take i ++ (os.drop i).take (j - i):=by
  rw [← List.take_add]; congr 1; omega
 rw [e,used_app]
 have:=used_pos ((os.drop i).take (j - i))
 omega
theorem pos_lt {os:List AObj} {i j:Nat} (h:i < j) (hj:j ≤ os.length):pos os i < pos os j:=by
 have hi:i < os.length:=by omega
 have h1:=pos_succ (os:=os) (i:=i) (List.getElem?_eq_getElem hi)
 have h2:=pos_mono (os:=os) (i:=i + 1) (j:=j) h
 have:=size_pos os[i]
 omega
theorem pos_lt_used {os:List AObj} {i:Nat} (h:i < os.length):pos os i < used os:=by
 rw [← pos_len]; exact pos_lt h (Nat.le_refl _)
theorem pos_size_le {os:List AObj} {i:Nat} {o:AObj} (h:os[i]?=some o):pos os i + o.size ≤ used os:=by
 rw [← pos_succ h,← pos_len]
 obtain ⟨hi,_⟩:=List.getElem?_eq_some_iff.1 h
 exact pos_mono hi
theorem pos_inj {os:List AObj} {i j:Nat} (hi:i < os.length) (hj:j < os.length) (h:pos os i=pos os j):i=j:=by
 rcases Nat.lt_trichotomy i j with hl | hl | hl
 ·have:=pos_lt hl (Nat.le_of_lt hj); omega
 ·exact hl
 ·have:=pos_lt hl (Nat.le_of_lt hi); omega
theorem idxFrom_some:∀ (os:List AObj) (p a i:Nat),idxFrom os p a=some i ↔ i < os.length∧p + (((os.take i).map AObj.size).sum)=a:=by
 intro os
 induction os with
 | nil=>intro p a i; simp [idxFrom]
 | cons o r ih =>
  intro p a i
  unfold idxFrom
  split
  ·rename_i h
   subst h
   cases i with
   | zero=>simp
   | succ i =>
    have:=size_pos o
    constructor
    ·intro h; simp at h
    ·rintro ⟨_,h⟩; simp at h; omega
  ·rename_i h
   cases i with
   | zero=>simp; omega
   | succ i =>
    simp only [Option.map_eq_some_iff,Nat.add_right_cancel_iff,exists_eq_right,ih,List.length_cons,List.take_succ_cons,List.map_cons,List.sum_cons]
    constructor
    ·rintro ⟨h1,h2⟩; exact ⟨by omega,by omega⟩
    ·rintro ⟨h1,h2⟩; exact ⟨by omega,by omega⟩
theorem idx_some {os:List AObj} {a i:Nat}:idx os a=some i ↔ i < os.length∧pos os i=a:=by
 unfold idx pos
 rw [idxFrom_some,used_eq]
theorem idx_pos {os:List AObj} {i:Nat} (h:i < os.length):idx os (pos os i)=some i:=idx_some.2 ⟨h,rfl⟩
theorem idx_zero (os:List AObj):idx os 0=none:=by
 cases h:idx os 0 with
 | none=>rfl
 | some i=>have:=(idx_some.1 h).2; have:=pos_ge os i; omega
theorem idx_lt {os:List AObj} {a i:Nat} (h:idx os a=some i):a < used os:=by
 obtain ⟨h1,h2⟩:=idx_some.1 h
 rw [← h2]; exact pos_lt_used h1
theorem idx_none_of_ge {os:List AObj} {a:Nat} (h:used os ≤ a):idx os a=none:=by
 cases hi:idx os a with
 | none=>rfl
 | some i=>have:=idx_lt hi; omega
theorem pos_snoc {os:List AObj} {o:AObj} {i:Nat} (h:i ≤ os.length):pos (os ++ [o]) i=pos os i:=by
 unfold pos
 rw [List.take_append_of_le_length h]
theorem idx_snoc (os:List AObj) (o:AObj) (a:Nat):idx (os ++ [o]) a=if a=used os then some os.length else idx os a:=by
 split
 ·rename_i h
  subst h
  rw [idx_some]
  exact ⟨by simp,by rw [pos_snoc (Nat.le_refl _),pos_len]⟩
 ·rename_i h
  cases hi:idx os a with
  | some i =>
   obtain ⟨h1,h2⟩:=idx_some.1 hi
   rw [idx_some]
   exact ⟨by simp; omega,by rw [pos_snoc (Nat.le_of_lt h1),h2]⟩
  | none =>
   cases hj:idx (os ++ [o]) a with
   | none=>rfl
   | some j =>
    obtain ⟨h1,h2⟩:=idx_some.1 hj
    by_cases hl:j < os.length
    ·rw [pos_snoc (Nat.le_of_lt hl)] at h2
     rw [idx_some.2 ⟨hl,h2⟩] at hi
     cases hi
    ·have:j=os.length:=by simp at h1; omega
     subst this
     rw [pos_snoc (Nat.le_refl _),pos_len] at h2
     exact absurd h2.symm h
/-- A place's word. -/
theorem words_split {os:List AObj} {i:Nat} {o:AObj} (h:os[i]?=some o):∃ r,wordsOf os=wordsOf (os.take i) ++ (o.enc ++ r):=by
 obtain ⟨hi,he⟩:=List.getElem?_eq_some_iff.1 h
 refine ⟨(os.drop (i + 1)).flatMap AObj.enc,?_⟩
 have e:os=os.take i ++ o :: os.drop (i + 1):=by
  rw [← he,← List.drop_eq_getElem_cons hi,List.take_append_drop]
 conv=>lhs; rw [e]
 simp [wordsOf]
theorem word_head {os:List AObj} {i:Nat} {o:AObj} (h:os[i]?=some o):(wordsOf os)[pos os i]?=some o.head:=by
 obtain ⟨r,e⟩:=words_split h
 rw [e,List.getElem?_append_right (by show (wordsOf (os.take i)).length ≤ used (os.take i); exact Nat.le_refl _)]
 have:pos os i - (wordsOf (os.take i)).length=0:=by show used (os.take i) - used (os.take i)=0; omega
 rw [this]; rfl
theorem word_fld {os:List AObj} {i j:Nat} {o:AObj} (h:os[i]?=some o) (hj:j < o.flds.length):(wordsOf os)[pos os i + 1 + j]?=o.flds[j]?:=by
 obtain ⟨r,e⟩:=words_split h
 rw [e,List.getElem?_append_right (by show used (os.take i) ≤ used (os.take i) + 1 + j; omega)]
 have:pos os i + 1 + j - (wordsOf (os.take i)).length=j + 1:=by show used (os.take i) + 1 + j - used (os.take i)=j + 1; omega
 rw [this]
 unfold AObj.enc
 rw [List.cons_append,List.getElem?_cons_succ,List.getElem?_append_left hj]
theorem pos_modify {os:List AObj} {i j:Nat} {f:AObj→AObj} (hf:∀ o,(f o).size=o.size):pos (os.modify i f) j=pos os j:=by
 unfold pos
 rw [used_eq,used_eq]
 congr 2
 rw [List.map_take,List.map_take]
 congr 1
 apply List.ext_getElem?
 intro k
 rw [List.getElem?_map,List.getElem?_map,List.getElem?_modify]
 cases os[k]? with
 | none=>rfl
 | some o=>simp only [Option.map_some]; split <;> simp [hf]
theorem used_modify {os:List AObj} {i:Nat} {f:AObj→AObj} (hf:∀ o,(f o).size=o.size):used (os.modify i f)=used os:=by
 have:=pos_modify (os:=os) (i:=i) (j:=os.length) hf
 rw [← pos_len,← pos_len,List.length_modify]; exact this
theorem idx_modify {os:List AObj} {i a:Nat} {f:AObj→AObj} (hf:∀ o,(f o).size=o.size):idx (os.modify i f) a=idx os a:=by
 cases h:idx os a with
 | some j =>
  obtain ⟨h1,h2⟩:=idx_some.1 h
  exact idx_some.2 ⟨by simpa using h1,by rw [pos_modify hf,h2]⟩
 | none =>
  cases hj:idx (os.modify i f) a with
  | none=>rfl
  | some j =>
   obtain ⟨h1,h2⟩:=idx_some.1 hj
   rw [pos_modify hf] at h2
   rw [idx_some.2 ⟨by simpa using h1,h2⟩] at h
   cases h
theorem words_modify {os:List AObj} {i:Nat} {o:AObj} {f:AObj→AObj} (h:os[i]?=some o) (j v:Nat) (hj:j < o.size) (he:(f o).enc=o.enc.set j v) :
  wordsOf (os.modify i f)=(wordsOf os).set (pos os i + j) v:=by
 obtain ⟨hi,hio⟩:=List.getElem?_eq_some_iff.1 h
 have e:os=os.take i ++ o :: os.drop (i + 1):=by
  rw [← hio,← List.drop_eq_getElem_cons hi,List.take_append_drop]
 have e2:os.modify i f=os.take i ++ f o :: os.drop (i + 1):=by
  rw [List.modify_eq_take_cons_drop hi,hio]
 rw [e2]
 have hl:(wordsOf (os.take i)).length=pos os i:=rfl
 have e3:wordsOf os=wordsOf (os.take i) ++ (o.enc ++ (os.drop (i + 1)).flatMap AObj.enc):=by
  conv=>lhs; rw [e]
  simp [wordsOf]
 rw [e3,List.set_append_right _ _ (by omega),hl,Nat.add_sub_cancel_left,List.set_append_left _ _ (by rw [AObj.enc_len]; exact hj),← he]
 simp [wordsOf]
theorem words_setF {os:List AObj} {i j v:Nat} {o:AObj} (h:os[i]?=some o) (hj:j < o.flds.length) :
  wordsOf (os.modify i fun o=>o.setF j v)=(wordsOf os).set (pos os i + 1 + j) v:=by
 rw [show pos os i + 1 + j=pos os i + (j + 1) by omega]
 refine words_modify h (j + 1) v (by unfold AObj.size; omega) ?_
 unfold AObj.enc
 rw [AObj.head_setF,AObj.flds_setF,List.set_cons_succ]
theorem words_fwd {os:List AObj} {i t:Nat} {o:AObj} (h:os[i]?=some o) :
  wordsOf (os.modify i fun o=>{ o with fwd:=some t })=(wordsOf os).set (pos os i) (9223372036854775808 + t):=by
 exact words_modify h 0 _ (size_pos o) rfl
/-! ### The bits that say where an object begins -/
def bitAt (fs:List Nat) (p:Nat):Bool:=(fs.getD (p / 64) 0).testBit (p % 64)
structure FirstOk (fs:List Nat) (os:List AObj):Prop where
 bit:∀ p,bitAt fs p=(idx os p).isSome
 len:used os ≤ fs.length * 64
 lt:∀ x ∈ fs,x < 18446744073709551616
theorem FirstOk.modify {fs:List Nat} {os:List AObj} {i:Nat} {f:AObj→AObj} (h:FirstOk fs os) (hf:∀ o,(f o).size=o.size):FirstOk fs (os.modify i f) :=
 ⟨fun p=>by rw [idx_modify hf]; exact h.bit p,by rw [used_modify hf]; exact h.len,h.lt⟩
theorem bitAt_zeros (fs:List Nat) (k p:Nat):bitAt (fs ++ List.replicate k 0) p=bitAt fs p:=by
 unfold bitAt
 congr 1
 rw [List.getD_eq_getElem?_getD,List.getD_eq_getElem?_getD]
 by_cases h:p / 64 < fs.length
 ·rw [List.getElem?_append_left h]
 ·rw [List.getElem?_append_right (by omega),List.getElem?_eq_none (l:=fs) (by omega),List.getElem?_replicate]
  split <;> rfl
theorem bitAt_set {fs:List Nat} {a p:Nat} (h:a / 64 < fs.length):bitAt (fs.set (a / 64) (fs.getD (a / 64) 0 ||| 2 ^ (a % 64))) p=(bitAt fs p || p == a):=by
 unfold bitAt
 rw [List.getD_eq_getElem?_getD,List.getD_eq_getElem?_getD (l:=fs) (i:=p / 64)]
 by_cases hp:p / 64=a / 64
 ·rw [hp,List.getElem?_set_self h,Option.getD_some,Nat.testBit_or,Nat.testBit_two_pow,List.getD_eq_getElem?_getD]
  congr 1
  rw [Bool.eq_iff_iff]
  simp only [decide_eq_true_eq,beq_iff_eq]
  omega
 ·rw [List.getElem?_set_ne (by omega)]
  have:(p == a)=false:=by rw [beq_eq_false_iff_ne]; intro e; subst e; exact hp rfl
  rw [this,Bool.or_false]
theorem FirstOk.snoc {fs:List Nat} {os:List AObj} {o:AObj} (h:FirstOk fs os) {k:Nat} (hl:used os + o.size ≤ (fs.length + k) * 64) :
  FirstOk ((fs ++ List.replicate k 0).set (used os / 64) ((fs ++ List.replicate k 0).getD (used os / 64) 0 ||| 2 ^ (used os % 64))) (os ++ [o]):=by
 have hs:=size_pos o
 have hlt:used os / 64 < (fs ++ List.replicate k 0).length:=by simp; omega
 refine ⟨fun p=>?_,?_,?_⟩
 ·rw [bitAt_set hlt,bitAt_zeros,h.bit,idx_snoc]
  by_cases hp:p=used os
  ·rw [if_pos hp]; simp [hp]
  ·rw [if_neg hp]; simp [hp]
 ·rw [used_snoc]; simp; omega
 ·intro x hx
  rcases List.mem_or_eq_of_mem_set hx with hx | hx
  ·rcases List.mem_append.1 hx with hx | hx
   ·exact h.lt x hx
   ·rw [(List.mem_replicate.1 hx).2]; omega
  ·rw [hx]
   have h1:(fs ++ List.replicate k 0).getD (used os / 64) 0 < 2 ^ 64:=by
    rw [List.getD_eq_getElem?_getD,List.getElem?_eq_getElem hlt,Option.getD_some]
    have:=List.getElem_mem hlt
    rcases List.mem_append.1 this with hx | hx
    ·exact h.lt _ hx
    ·rw [(List.mem_replicate.1 hx).2]; omega
   have h2:2 ^ (used os % 64) < 2 ^ 64:=Nat.pow_lt_pow_right (by omega) (by omega)
   exact Nat.or_lt_two_pow h1 h2
theorem firstOk_nil:FirstOk [0] []:=by
 refine ⟨fun p=>?_,by simp [used_nil],by simp⟩
 unfold bitAt
 have:([0]:List Nat).getD (p / 64) 0=0:=by
  rw [List.getD_eq_getElem?_getD]
  cases p / 64 with
  | zero=>rfl
  | succ n=>simp
 rw [this]
 simp [idx,idxFrom]
end Go.Ev
