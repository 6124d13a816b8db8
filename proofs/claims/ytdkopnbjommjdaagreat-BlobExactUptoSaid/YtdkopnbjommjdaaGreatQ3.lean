/- The evaluator is sound down to the model's own calls / The words in which the functions are printed, and frames at a loop's head / Facts on machine numbers / Objects and their words, as plain lists / Blocks of cells, slices that own a block, append. No condition but that these are ones. -/
import Derived.Test.YtdkopnbjommjdaaGreatQ2
import Derived.KernelRfl
set_option linter.all false
namespace Go.Ev
section
variable {P:Program} {T:Tab} {D:List Deferred} {w0:World}
theorem wpP_triv {ops:Array Oper} {Q:Exit→Act→World→Prop}:∀ (fuel:Nat) (ps ps':List Pend) (listed:Array Bool) (a:Act) (h:Hp),(∀ p ∈ ps',p ∈ ps ∨ ∀ h,p.S h) →
  wpP P ops Q w0 fuel ps listed a h→wpP P ops Q w0 fuel ps' listed a h
 | 0,_,_,_,_,_,_,H=>H
 | fuel + 1,ps,ps',_,_,_,hsub,H=>fun w hs hw=>⟨(H w hs hw).1,fun j o hj ho=>by
   have hsub':∀ p ∈ runL ps' o,p ∈ runL ps o ∨ ∀ h,p.S h:=fun p hp=>by
    obtain ⟨hp,hw⟩:=List.mem_filter.1 hp
    exact (hsub p hp).imp (fun h=>List.mem_filter.2 ⟨h,hw⟩) id
   exact wpOp_mono (fun a' w' h'=>⟨h'.1,fun p hp=>(hsub' p hp).elim (h'.2.1 p) (fun h=>h _),wpP_triv fuel _ _ _ a' _ hsub' h'.2.2⟩) ((H w hs hw).2 j o hj ho)⟩
theorem oblK_sound {o:Oper} {h:Hp}:∀ (ps:List Pend) (X:List Pend→Prop),oblK o h ps X→(∀ p ∈ runL ps o,p.S h)∧X (runL ps o):=by
 intro ps
 induction ps with
 | nil=>exact fun X hX=>⟨fun p hp=>(by cases hp),hX⟩
 | cons p ps ih =>
  intro X hX
  rcases Cond.split hX with ⟨hw,hX⟩ | ⟨hw,hS,hX⟩
  ·obtain ⟨h1,h2⟩:=ih X hX
   have e:runL (p :: ps) o=runL ps o:=List.filter_cons_of_neg (by simp [hw])
   rw [e]
   exact ⟨h1,h2⟩
  ·obtain ⟨h1,h2⟩:=ih _ hX
   have e:runL (p :: ps) o=p :: runL ps o:=List.filter_cons_of_pos (by simp [hw])
   rw [e]
   refine ⟨fun q hq=>?_,h2⟩
   rcases List.mem_cons.1 hq with rfl | hq
   ·exact hS
   ·exact h1 q hq
theorem allL_mem {φ:Nat→Prop}:∀ {l:List Nat},allL l φ→∀ i ∈ l,φ i
 | [],_,_,hi=>by cases hi
 | [i],h,j,hj=>by
  rw [List.mem_singleton] at hj
  rw [hj]; exact h
 | i :: j :: l,h,k,hk=>by
  rcases List.mem_cons.1 hk with rfl | hk
  ·exact h.1
  ·exact allL_mem h.2 k hk
theorem evR_sound (hT:TabOk P T) {ops:Array Oper} {Q:Kc} (hsel:Region.noSelect ops=true):∀ (fuel:Nat) (ps:List Pend) (listed:Array Bool) (env:List Value) (h:Hp),(∀ p ∈ ps,p.S h) →
  evR P T ops (Q .normal) fuel ps listed env h→wpP P ops (lift D w0 Q) w0 fuel ps listed (actL env D) h:=by
 intro fuel
 induction fuel with
 | zero =>
  intro ps listed env h _ H
  unfold evR at H
  split at H
  ·rename_i hr
   exact ⟨hr,fun w hs hw=>⟨hs,env,rfl,hw ▸ H⟩⟩
  ·exact H.elim
 | succ fuel ih =>
  intro ps listed env h hps H
  unfold evR at H
  split at H
  ·rename_i i hfind
   have hi:i ∈ Region.ready .any ops listed:=List.mem_of_find?_eq_some hfind
   split at H
   ·rename_i o ho
    obtain ⟨hfree,H⟩:=Cond_true' H
    have hhyp:∀ S:Hp→Prop,S h→∀ p ∈ hypL ps i o,p.S h:=fun S _ p hp=>by
     obtain ⟨q,hq,rfl⟩:=List.mem_map.1 hp
     exact hps q hq
    have etm:(actL env D).tmps=env.toArray:=rfl
    rcases evG_sound H with ⟨hw,H⟩ | ⟨hw,H⟩
    ·obtain ⟨v,S,hR,hS,hrun⟩:=evQ_sound hT H
     have hy:YS P ops w0 (S.getD fun _=>True) o v (actL env D):=.inl ⟨by rw [etm]; exact hw,fun w _ hS=>by rw [eval_actL]; exact hrun w hS⟩
     refine wpP_first ho (Region.noSelect_spec hsel) (fun c a w h=>h.2.elim fun _ h=>h.2) fuel ps listed (actL env D) h (Region.free_spec ho hfree) hi hy hS hps ?_
     rw [put_actL]
     cases S with
     | none =>
      refine wpP_triv fuel (hypL ps i o) _ _ _ _ (fun p hp=>?_) (ih _ _ _ _ (hhyp (fun _=>True) trivial) hR)
      rcases List.mem_cons.1 hp with rfl | hp
      ·exact .inr fun _=>trivial
      ·exact .inl hp
     | some S =>
      refine ih _ _ _ _ (fun p hp=>?_) hR
      rcases List.mem_cons.1 hp with rfl | hp
      ·exact hS
      ·exact hhyp S hS p hp
    ·have hy:YS P ops w0 (fun _=>True) o undef (actL env D):=.inr ⟨by rw [etm]; exact hw,rfl⟩
     refine wpP_first ho (Region.noSelect_spec hsel) (fun c a w h=>h.2.elim fun _ h=>h.2) fuel ps listed (actL env D) h (Region.free_spec ho hfree) hi hy trivial hps ?_
     rw [put_actL]
     refine wpP_triv fuel (hypL ps i o) _ _ _ _ (fun p hp=>?_) (ih _ _ _ _ (hhyp (fun _=>True) trivial) H)
     rcases List.mem_cons.1 hp with rfl | hp
     ·exact .inr fun _=>trivial
     ·exact .inl hp
   ·exact H.elim
  ·split at H
   ·rename_i hr
    intro w hs hw
    refine ⟨fun _=>⟨hs,env,rfl,hw ▸ H⟩,fun j o hj=>?_⟩
    rw [hr] at hj
    cases hj
   ·rename_i r rs hr
    intro w hs hw
    refine ⟨fun h0=>(by rw [hr] at h0; cases h0),fun j o hj ho=>?_⟩
    rw [hr] at hj
    have H:=allL_mem H j hj
    simp only [ho] at H
    unfold wpOp
    simp only [ho]
    have etm:(actL env D).tmps=env.toArray:=rfl
    rw [etm]
    subst hw
    rcases evG_sound H with ⟨hw,H⟩ | ⟨hw,H⟩
    ·rw [if_pos hw]
     refine .inl (OpOk.wp hs (evOp_sound hT H) fun v w' hs' hk=>?_)
     obtain ⟨h1,h2⟩:=oblK_sound _ _ hk
     exact ⟨hs',h1,ih _ _ _ _ h1 h2⟩
    ·rw [hw]
     simp only [Bool.false_eq_true,if_false]
     rw [put_actL]
     obtain ⟨h1,h2⟩:=oblK_sound _ _ H
     exact ⟨hs,h1,ih _ _ _ _ h1 h2⟩

/-! ### Code -/
/-- What a piece of code owes: it is as the evaluator says from every world of that heap. -/
def CodeOk (P:Program) (D:List Deferred) (w0:World) (c:Code) (ev:Kc→List Value→Hp→Prop):Prop :=
 ∀ (Q:Kc) (env:List Value) (w:World),Same w0 w→ev Q env w.heap→c.wp P (lift D w0 Q) (actL env D) w
theorem wp_loopEv {c:Code} {Q:Exit→Act→World→Prop} {a:Act} {w:World} (I:Nat→Act→World→Prop) (n:Nat) (h0:I n a w)
  (round:∀ n a w,I n a w→c.wp P (Exit.then (fun a' w'=>∃ m,m < n∧I m a' w') Q) a w):(Code.loop c).wp P Q a w:=by
 intro b k cs
 have key:∀ n a w,I n a w →
   ∃ e a' w',Q e a' w'∧Arrives P (lone (b.at a (.code c :: .inLoop c :: k)) cs w) b k cs e a' w':=by
  intro n
  induction n using Nat.strongRecOn with
  | _ n ih =>
   intro a w hI
   obtain ⟨e,a₁,w₁,hq,harr⟩:=round n a w hI b (.inLoop c :: k) cs
   cases e with
   | normal =>
    obtain ⟨m,hlt,hI₁⟩:=hq
    obtain ⟨e₂,a₂,w₂,hq₂,harr₂⟩:=ih m hlt a₁ w₁ hI₁
    exact ⟨e₂,a₂,w₂,hq₂,.of_steps (Steps.trans harr (.one step_inLoop)) harr₂⟩
   | exit id=>exact ⟨_,a₁,w₁,hq,.pass (x:=.inLoop c) rfl (fun _ _=>.inl (by simp)) harr⟩
   | goto l=>exact ⟨_,a₁,w₁,hq,.pass (x:=.inLoop c) rfl (fun _ _=>.inl (by simp)) harr⟩
   | ret=>exact ⟨_,a₁,w₁,hq,.pass (x:=.inLoop c) rfl (fun _ _=>.inl (by simp)) harr⟩
   | panic ch=>exact ⟨_,a₁,w₁,hq,.pass (x:=.inLoop c) rfl (fun _ _=>.inl (by simp)) harr⟩
   | outgrown=>exact ⟨_,a₁,w₁,hq,.pass (x:=.inLoop c) rfl (fun _ _=>.inl (by simp)) harr⟩
 obtain ⟨e,a',w',hq,harr⟩:=key n a w h0
 exact ⟨e,a',w',hq,.of_steps (.one step_loop) harr⟩
/-- No select in any region that draws. -/
def noSel:Code→Bool
 | .seq a b=>noSel a && noSel b
 | .cond _ a b=>noSel a && noSel b
 | .block _ c=>noSel c
 | .loop c=>noSel c
 | .region _ ops draw=>!draw || Region.noSelect ops
 | _=>true
theorem evC_sound {lv:Nat→List Nat} (hm:P.follows .mixedOrders=true) (hT:TabOk P T):∀ (c:Code),noSel c=true→CodeOk P D w0 c (evC P T lv c):=by
 intro c
 induction c with
 | skip=>exact fun _ Q env w hs h=>wp_skip ⟨hs,env,rfl,h⟩
 | ret=>exact fun _ Q env w hs h=>wp_ret ⟨hs,env,rfl,h⟩
 | exit id=>exact fun _ Q env w hs h=>wp_exit ⟨hs,env,rfl,h⟩
 | seq a b iha ihb =>
  intro hn Q env w hs h
  simp only [noSel,Bool.and_eq_true] at hn
  refine wp_seq (wp_mono (iha hn.1 _ env w hs h) fun e a' w' hl=>?_)
  obtain ⟨hs',env',rfl,hl⟩:=hl
  cases e <;> first | exact hl.elim | exact ⟨hs',env',rfl,hl⟩ | exact ihb hn.2 Q env' w' hs' hl
 | cond c a b iha ihb =>
  intro hn Q env w hs h
  simp only [noSel,Bool.and_eq_true] at hn
  unfold evC at h
  split at h
  ·rename_i t hc
   have hc':(actL env D).eval c=.bool t:=by rw [eval_actL]; exact hc
   rcases h.split with ⟨rfl,hx⟩ | ⟨rfl,hx⟩
   ·exact wp_cond_true hc' (iha hn.1 Q env w hs hx)
   ·exact wp_cond_false hc' (ihb hn.2 Q env w hs hx)
  ·exact h.elim
 | block id c ih =>
  intro hn Q env w hs h
  refine wp_block (wp_mono (ih hn _ env w hs h) fun e a' w' hl=>?_)
  obtain ⟨hs',env',rfl,hl⟩:=hl
  cases e with
  | exit id' =>
   show if id'=id then _ else _
   simp only [blockK] at hl
   split at hl
   ·rename_i hid; rw [if_pos hid]; exact ⟨hs',env',rfl,hl⟩
   ·rename_i hid; rw [if_neg hid]; exact ⟨hs',env',rfl,hl⟩
  | _=>first | exact hl.elim | exact ⟨hs',env',rfl,hl⟩
 | loop c ih =>
  intro hn Q env w hs h
  obtain ⟨I,n,hg,round⟩:=h
  have h0:I n env w.heap:=by
   have:=hg fun k=>env.getD k undef
   have e:mkEnv env.length (pairsOf (lv (firstR c)) env) (fun k=>env.getD k undef)=env:=mkEnv_self _ _
   rwa [e] at this
  refine wp_loopEv (fun n a w=>Same w0 w∧∃ env,a=actL env D∧I n env w.heap) n ⟨hs,env,rfl,h0⟩ fun n a w hI=>?_
  obtain ⟨hs',env',rfl,hI⟩:=hI
  refine wp_mono (ih hn _ env' w hs' (round n env' w.heap hI)) fun e a' w' hl=>?_
  obtain ⟨hs'',env'',rfl,hl⟩:=hl
  cases e <;> first | exact hl.elim | exact ⟨hs'',env'',rfl,hl⟩ | (obtain ⟨m,hlt,hm⟩:=hl; exact ⟨m,hlt,hs'',env'',rfl,hm⟩)
 | region id ops draw =>
  intro hn Q env w hs h
  unfold evC at h
  cases draw with
  | false =>
   simp only [Bool.false_eq_true,if_false] at h
   refine wp_region ?_
   have:=evOps_sound (P:=P) (D:=D) (w0:=w0) hT (ops:=ops) ops.toList 0 env w (fun i=>by simp) hs h
   rw [Array.length_toList] at this
   rwa [List.range_eq_range']
  | true =>
   simp only [if_true] at h
   have hsel:Region.noSelect ops=true:=by simpa [noSel] using hn
   refine wp_region_any hm ?_
   exact wpAny_of_P ops.size [] _ _ { w with drawn:=w.drawn + 1 } ⟨hs.1,hs.2.1,hs.2.2⟩ (evR_sound hT hsel ops.size [] _ env w.heap (fun p hp=>by cases hp) h)
 | _=>exact fun _ Q env w hs h=>h.elim

/-! ### Calls -/
def bodyK (P:Program) (fn:Func) (hints:List VK) (R:Value→Hp→Prop):Kc
 | .normal,env,h=>rdSem P (results fn env.toArray) hints h fun v _=>R v h
 | .ret,env,h=>rdSem P (results fn env.toArray) hints h fun v _=>R v h
 | _,_,_=>False
def envOf (fn:Func) (args:List Value):List Value:=args ++ List.replicate (fn.ntmps - args.length) undef
def evF (P:Program) (T:Tab) (lv:Nat→List Nat) (fn:Func) (c:Code) (hints:List VK) (args:List Value) (h:Hp) (R:Value→Hp→Prop):Prop :=
 evC P T lv c (bodyK P fn hints R) (envOf fn args) h
theorem callTo_of_ev {lv:Nat→List Nat} (hm:P.follows .mixedOrders=true) (hT:TabOk P T) {f:FuncId} {fn:Func} {c:Code} {hints:List VK} {args:List Value} {h:Hp} {R:Value→Hp→Prop} (hf:P.funcs[f]?=some fn) (hb:fn.body=some c)
  (hn:noSel c=true) (he:evF P T lv fn c hints args h R):CallTo P f args.toArray h R:=by
 intro w hw
 subst hw
 refine calls_of_wp hf hb ?_
 have key:=evC_sound (D:=[]) (w0:=w) hm hT c hn _ _ w (Same.refl _) he
 have e:({ tmps:=args.toArray ++ Array.replicate (fn.ntmps - args.toArray.size) undef,defers:=[] }:Act)=actL (envOf fn args) []:=by
  unfold actL envOf
  congr 1
  apply Array.ext'
  simp
 rw [e]
 refine wp_mono key fun e a w' hl=>?_
 obtain ⟨hs,env,rfl,hl⟩:=hl
 cases e <;> first | exact hl.elim | skip
 all_goals
  obtain ⟨v,vs,hr,hk⟩:=rdSem_sound _ _ _ _ hl
  exact ⟨rfl,v,hr,v,rfl,hs,hk⟩
end
end Go.Ev
set_option linter.all false
namespace Go.Ev
/-! ### The words of the printed functions -/
def Let {α:Type} (x:α) (K:α→Prop):Prop:=K x
/-- The address of the next new block. -/
def nb (h:Hp):Addr:=⟨h.size,0,none⟩
def andI (k:IntKind) (x y:Int):Int:=k.wrap ((BitVec.ofInt k.bits x &&& BitVec.ofInt k.bits y).toNat:Int)
def orI (k:IntKind) (x y:Int):Int:=k.wrap ((BitVec.ofInt k.bits x ||| BitVec.ofInt k.bits y).toNat:Int)
def xorI (k:IntKind) (x y:Int):Int:=k.wrap ((BitVec.ofInt k.bits x ^^^ BitVec.ofInt k.bits y).toNat:Int)
def andNotI (k:IntKind) (x y:Int):Int:=k.wrap ((BitVec.ofInt k.bits x &&& ~~~(BitVec.ofInt k.bits y)).toNat:Int)
def appT (e sz bys:Nat) (z:Array Value) (base:Option Addr) (n c need:Nat) (news:List Value) (h:Hp) (K:Option Addr→Nat→Nat→Hp→Prop):Prop :=
 (need ≤ c→fromBase h base (n * sz) news fun h'=>K base need c h') ∧
 (c < need→(2 * need + 768) * bys ≤ 2 ^ 48∧need < 2 ^ 62∧∃ olds,ReadsO h base olds∧olds.length=n * sz ∧
  ∀ nc,need ≤ nc→nc < 2 ^ 63→K (some ⟨h.size,0,none⟩) need nc (h.push (.cells (olds.toArray ++ news.toArray ++ zrow z ((nc - need) * z.size)) e)))
def appSl (e sz bys:Nat) (z:Array Value) (base:Option Addr) (n c:Nat) (b2:Option Addr) (m:Nat) (h:Hp) (K:Option Addr→Nat→Nat→Hp→Prop):Prop :=
 ∃ news,ReadsO h b2 news∧news.length=m * sz∧appT e sz bys z base n c (n + m) news h K
def appZ (e sz bys:Nat) (z:Array Value) (base:Option Addr) (n c:Nat) (m:Int) (h:Hp) (K:Option Addr→Nat→Nat→Hp→Prop):Prop :=
 (0 ≤ m∧m < 2 ^ 62)∧m * bys ≤ 2 ^ 48∧appT e sz bys z base n c (n + m.toNat) (zrow z (m.toNat * z.size)).toList h K
def cpySl (sz:Nat) (base:Option Addr) (n:Nat) (b2:Option Addr) (m:Nat) (h:Hp) (K:Int→Hp→Prop):Prop :=
 ∃ news,ReadsO h b2 news∧news.length=min m n * sz∧fromBase h base 0 news fun h'=>K (min m n:Nat) h'
/-! ### Places in a function's code -/
def sub:List Nat→Code→Code
 | [],c=>c
 | 0 :: π,.seq a _=>sub π a
 | _ :: π,.seq _ b=>sub π b
 | 0 :: π,.cond _ a _=>sub π a
 | _ :: π,.cond _ _ b=>sub π b
 | _ :: π,.block _ c=>sub π c
 | _ :: π,.loop c=>sub π c
 | _,c=>c
/-- What a piece of the code goes on with. 'lk': of the loops on the way, from without. -/
def contAt (P:Program) (T:Tab) (lv:Nat→List Nat):List Nat→Code→List (Kc→Kc)→Kc→Kc
 | [],_,_,Q=>Q
 | 0 :: π,.seq a b,lk,Q=>contAt P T lv π a lk (seqK (evC P T lv b Q) Q)
 | _ :: π,.seq _ b,lk,Q=>contAt P T lv π b lk Q
 | 0 :: π,.cond _ a _,lk,Q=>contAt P T lv π a lk Q
 | _ :: π,.cond _ _ b,lk,Q=>contAt P T lv π b lk Q
 | _ :: π,.block id c,lk,Q=>contAt P T lv π c lk (blockK id Q)
 | _ :: π,.loop c,k :: lk,Q=>contAt P T lv π c lk (k Q)
 | _,_,_,Q=>Q

/-! ### A frame at a loop's head: known slots, and others -/
def DecI (k:IntKind) (env:List Value) (s:Nat) (K:Int→Prop):Prop:=match env[s]? with | some (.int k' n)=>Cond (k == k') (K n) False | _=>False
def DecB (env:List Value) (s:Nat) (K:Bool→Prop):Prop:=match env[s]? with | some (.bool b)=>K b | _=>False
def DecP (env:List Value) (s:Nat) (K:Option Addr→Prop):Prop:=match env[s]? with | some (.pointer p)=>K p | _=>False
def DecA (env:List Value) (s:Nat) (K:Addr→Prop):Prop:=match env[s]? with | some (.pointer (some p))=>K p | _=>False
def DecL (env:List Value) (s:Nat) (K:Sl→Prop):Prop:=match env[s]? with | some (.slice a n c)=>K ⟨a,n,c⟩ | _=>False
def DecS (env:List Value) (s:Nat) (K:ByteArray→Prop):Prop:=match env[s]? with | some (.string b)=>K b | _=>False
def DecM (env:List Value) (s:Nat) (K:Option Nat→Prop):Prop:=match env[s]? with | some (.map r)=>K r | _=>False
def DecV (env:List Value) (s:Nat) (K:Value→Prop):Prop:=match env[s]? with | some v=>K v | _=>False
def lenIs (env:List Value) (n:Nat) (K:Prop):Prop:=Cond (env.length == n) K False
theorem DecI.out {k:IntKind} {env:List Value} {s:Nat} {K:Int→Prop} (h:DecI k env s K):∃ n,env[s]?=some (.int k n)∧K n:=by
 unfold DecI at h
 split at h
 ·rename_i k' n he
  obtain ⟨hk,hc⟩:=Cond_true' h
  obtain rfl:k=k':=by simpa using hk
  exact ⟨n,he,hc⟩
 ·exact h.elim
theorem DecB.out {env:List Value} {s:Nat} {K:Bool→Prop} (h:DecB env s K):∃ n,env[s]?=some (.bool n)∧K n:=by
 unfold DecB at h; split at h
 ·exact ⟨_,‹_›,h⟩
 ·exact h.elim
theorem DecP.out {env:List Value} {s:Nat} {K:Option Addr→Prop} (h:DecP env s K):∃ n,env[s]?=some (.pointer n)∧K n:=by
 unfold DecP at h; split at h
 ·exact ⟨_,‹_›,h⟩
 ·exact h.elim
theorem DecA.out {env:List Value} {s:Nat} {K:Addr→Prop} (h:DecA env s K):∃ n,env[s]?=some (.pointer (some n))∧K n:=by
 unfold DecA at h; split at h
 ·exact ⟨_,‹_›,h⟩
 ·exact h.elim
theorem DecL.out {env:List Value} {s:Nat} {K:Sl→Prop} (h:DecL env s K):∃ n:Sl,env[s]?=some (.slice n.a n.n n.c)∧K n:=by
 unfold DecL at h; split at h
 ·exact ⟨⟨_,_,_⟩,‹_›,h⟩
 ·exact h.elim
theorem DecS.out {env:List Value} {s:Nat} {K:ByteArray→Prop} (h:DecS env s K):∃ n,env[s]?=some (.string n)∧K n:=by
 unfold DecS at h; split at h
 ·exact ⟨_,‹_›,h⟩
 ·exact h.elim
theorem DecM.out {env:List Value} {s:Nat} {K:Option Nat→Prop} (h:DecM env s K):∃ n,env[s]?=some (.map n)∧K n:=by
 unfold DecM at h; split at h
 ·exact ⟨_,‹_›,h⟩
 ·exact h.elim
theorem DecV.out {env:List Value} {s:Nat} {K:Value→Prop} (h:DecV env s K):∃ n,env[s]?=some n∧K n:=by
 unfold DecV at h; split at h
 ·exact ⟨_,‹_›,h⟩
 ·exact h.elim
theorem callable_of {P:Program} {f:FuncId} {fn:Func} (hf:P.funcs[f]?=some fn) (hn:(fn.name == "runtime.NumGoroutine")=false) (hb:fn.body.isSome=true):Callable P f:=by
 intro args w
 unfold callFunc
 simp only [run_bind,run_program,hf,hn,Bool.false_eq_true,if_false]
 have hb':fn.body.isNone=false:=by cases h:fn.body <;> simp_all
 simp only [hb',Bool.false_eq_true,if_false,run_pure]
end Go.Ev
set_option linter.all false
namespace Go.Ev
/-! ### Numbers -/
theorem wrap_i64_eq (x:Int):IntKind.wrap .i64 x=if 9223372036854775808 ≤ x % 18446744073709551616 then x % 18446744073709551616 - 18446744073709551616 else x % 18446744073709551616:=by
 unfold IntKind.wrap
 simp [IntKind.bits,IntKind.signed]
theorem wrap_u64_eq (x:Int):IntKind.wrap .u64 x=x % 18446744073709551616:=by
 unfold IntKind.wrap
 simp [IntKind.bits,IntKind.signed]
theorem wrap_i64' {x:Int} (h0:-9223372036854775808 ≤ x) (h1:x < 9223372036854775808):IntKind.wrap .i64 x=x:=by
 rw [wrap_i64_eq]
 split <;> omega
theorem wrap_u64' {x:Int} (h0:0 ≤ x) (h1:x < 18446744073709551616):IntKind.wrap .u64 x=x:=by
 rw [wrap_u64_eq]
 omega
theorem wrap_u8' {x:Int}:IntKind.wrap .u8 x=x % 256:=by
 unfold IntKind.wrap
 simp [IntKind.bits,IntKind.signed]
theorem bv_ofNat (n:Nat):BitVec.ofInt 64 (n:Int)=BitVec.ofNat 64 n:=by
 apply BitVec.eq_of_toNat_eq
 simp
theorem andI_nat {a b:Nat} (ha:a < 18446744073709551616) (hb:b < 18446744073709551616):andI .u64 (a:Int) (b:Int)=((a &&& b:Nat):Int):=by
 show IntKind.wrap .u64 (((BitVec.ofInt 64 (a:Int) &&& BitVec.ofInt 64 (b:Int):BitVec 64).toNat:Nat):Int)=_
 rw [bv_ofNat,bv_ofNat,BitVec.toNat_and,BitVec.toNat_ofNat,BitVec.toNat_ofNat,Nat.mod_eq_of_lt ha,Nat.mod_eq_of_lt hb]
 exact wrap_u64' (by omega) (by have:=Nat.and_le_left (n:=a) (m:=b); omega)
theorem orI_nat {a b:Nat} (ha:a < 18446744073709551616) (hb:b < 18446744073709551616):orI .u64 (a:Int) (b:Int)=((a ||| b:Nat):Int):=by
 show IntKind.wrap .u64 (((BitVec.ofInt 64 (a:Int) ||| BitVec.ofInt 64 (b:Int):BitVec 64).toNat:Nat):Int)=_
 rw [bv_ofNat,bv_ofNat,BitVec.toNat_or,BitVec.toNat_ofNat,BitVec.toNat_ofNat,Nat.mod_eq_of_lt ha,Nat.mod_eq_of_lt hb]
 have:a ||| b < 2 ^ 64:=Nat.or_lt_two_pow (by simpa using ha) (by simpa using hb)
 exact wrap_u64' (by omega) (by omega)
theorem testBit_lt {n k:Nat} (h:n < 2 ^ k):∀ j,k ≤ j→n.testBit j=false:=fun j hj =>
 Nat.testBit_lt_two_pow (Nat.lt_of_lt_of_le h (Nat.pow_le_pow_right (by omega) hj))
theorem testBit_63 (i:Nat):(9223372036854775808:Nat).testBit i=decide (i=63):=by
 rw [show (9223372036854775808:Nat)=2 ^ 63 by decide,Nat.testBit_two_pow]
 rw [Bool.eq_iff_iff]; simp [eq_comm]
theorem and_gone {a:Nat} (ha:a < 18446744073709551616):a &&& 9223372036854775808=if a < 9223372036854775808 then 0 else 9223372036854775808:=by
 apply Nat.eq_of_testBit_eq
 intro i
 rw [Nat.testBit_and,testBit_63]
 by_cases hi:i=63
 ·subst hi
  split
  ·rename_i h
   simp only [decide_true,Bool.and_true,Nat.zero_testBit]
   exact testBit_lt (k:=63) h 63 (Nat.le_refl _)
  ·rename_i h
   simp only [decide_true,Bool.and_true]
   rw [testBit_63,Nat.testBit_eq_decide_div_mod_eq]
   simp
   omega
 ·simp only [hi,decide_false,Bool.and_false]
  split
  ·simp
  ·rw [testBit_63]; simp [hi]
theorem andI_gone {a:Int} (h0:0 ≤ a) (ha:a < 18446744073709551616):andI .u64 a (9223372036854775808:Int)=if a < 9223372036854775808 then 0 else 9223372036854775808:=by
 obtain ⟨n,rfl⟩:=Int.eq_ofNat_of_zero_le h0
 have hn:n < 18446744073709551616:=by omega
 have:=andI_nat (a:=n) (b:=9223372036854775808) hn (by omega)
 rw [show ((9223372036854775808:Nat):Int)=(9223372036854775808:Int) from rfl] at this
 rw [this,and_gone hn]
 by_cases h:n < 9223372036854775808
 ·rw [if_pos h,if_pos (by omega)]; rfl
 ·rw [if_neg h,if_neg (by omega)]; rfl
theorem xor_gone {n:Nat} (hn:n < 18446744073709551616) (hg:9223372036854775808 ≤ n):((BitVec.ofNat 64 n) &&& ~~~(BitVec.ofNat 64 9223372036854775808)).toNat=n - 9223372036854775808:=by
 apply Nat.eq_of_testBit_eq
 intro i
 rw [BitVec.testBit_toNat,BitVec.getLsbD_and,BitVec.getLsbD_not,← BitVec.testBit_toNat,← BitVec.testBit_toNat,BitVec.toNat_ofNat,BitVec.toNat_ofNat,Nat.mod_eq_of_lt hn,Nat.mod_eq_of_lt (by omega),testBit_63]
 have hsub:n=9223372036854775808 + (n - 9223372036854775808):=by omega
 have hm:n - 9223372036854775808 < 2 ^ 63:=by omega
 by_cases hi:i < 64
 ·by_cases h63:i=63
  ·subst h63
   rw [testBit_lt hm 63 (Nat.le_refl _)]; simp
  ·have:n.testBit i=(n - 9223372036854775808).testBit i:=by
    conv=>lhs; rw [hsub,show (9223372036854775808:Nat)=2 ^ 63 by decide]
    rw [Nat.testBit_two_pow_add_gt (by omega)]
   simp [this,h63,hi]
 ·rw [testBit_lt hm i (by omega)]
  rw [testBit_lt (k:=64) (by omega) i (by omega)]; simp
theorem andNotI_gone {a:Int} (h0:9223372036854775808 ≤ a) (ha:a < 18446744073709551616):andNotI .u64 a (9223372036854775808:Int)=a - 9223372036854775808:=by
 obtain ⟨n,rfl⟩:=Int.eq_ofNat_of_zero_le (show (0:Int) ≤ a by omega)
 have e:BitVec.ofInt 64 (9223372036854775808:Int)=BitVec.ofNat 64 9223372036854775808:=bv_ofNat 9223372036854775808
 show IntKind.wrap .u64 (((BitVec.ofInt 64 (n:Int) &&& ~~~(BitVec.ofInt 64 (9223372036854775808:Int)):BitVec 64).toNat:Nat):Int)=_
 rw [e,bv_ofNat,xor_gone (by omega) (by omega)]
 rw [wrap_u64' (by omega) (by omega)]
 omega
theorem or_gone {n:Nat} (hn:n < 9223372036854775808):9223372036854775808 ||| n=9223372036854775808 + n:=by
 rw [show (9223372036854775808:Nat)=2 ^ 63 * 1 by decide]
 exact (Nat.two_pow_add_eq_or_of_lt hn 1).symm
theorem orI_gone {a:Int} (h0:0 ≤ a) (ha:a < 9223372036854775808):orI .u64 (9223372036854775808:Int) a=9223372036854775808 + a:=by
 obtain ⟨n,rfl⟩:=Int.eq_ofNat_of_zero_le h0
 have:=orI_nat (a:=9223372036854775808) (b:=n) (by omega) (by omega)
 rw [show ((9223372036854775808:Nat):Int)=(9223372036854775808:Int) from rfl] at this
 rw [this,or_gone (by omega)]
 rfl
theorem fdiv_pow (n k:Nat):Int.fdiv (n:Int) (2 ^ k)=((n / 2 ^ k:Nat):Int):=by
 rw [Int.fdiv_eq_ediv_of_nonneg _ (by exact Int.pow_nonneg (by omega))]
 norm_cast
theorem tdiv_nn {a b:Int} (h:0 ≤ a):Int.tdiv a b=a / b:=Int.tdiv_eq_ediv_of_nonneg h
theorem tmod_nn {a b:Int} (h:0 ≤ a):Int.tmod a b=a % b:=Int.tmod_eq_emod_of_nonneg h
theorem andI_one {n:Nat} (hn:n < 18446744073709551616):andI .u64 (n:Int) (1:Int)=((n % 2:Nat):Int):=by
 have:=andI_nat (a:=n) (b:=1) hn (by omega)
 rw [show ((1:Nat):Int)=(1:Int) from rfl] at this
 rw [this,Nat.and_one_is_mod]
end Go.Ev
set_option linter.all false
namespace Go.Ev
/-! ### Objects and their words -/
structure AObj where
 kind:Nat
 refs:List Nat
 raws:List Nat
 fwd:Option Nat
def hdw (k r w:Nat):Nat:=k + r * 256 + w * 4294967296
namespace AObj
def head (o:AObj):Nat:=match o.fwd with | none=>hdw o.kind o.refs.length o.raws.length | some t=>9223372036854775808 + t
def flds (o:AObj):List Nat:=o.refs ++ o.raws
def size (o:AObj):Nat:=1 + o.flds.length
def enc (o:AObj):List Nat:=o.head :: o.flds
structure Ok (o:AObj):Prop where
 k1:1 ≤ o.kind
 k2:o.kind ≤ 255
 nr:o.refs.length ≤ 1048576
 nw:o.raws.length ≤ 1048576
 fl:∀ x ∈ o.flds,x < 18446744073709551616
 fw:∀ t,o.fwd=some t→t < 9223372036854775808
def setF (o:AObj) (i v:Nat):AObj:=if i < o.refs.length then { o with refs:=o.refs.set i v } else { o with raws:=o.raws.set (i - o.refs.length) v }
theorem size_eq (o:AObj):o.size=1 + o.refs.length + o.raws.length:=by simp [size,flds]; omega
theorem enc_len (o:AObj):o.enc.length=o.size:=by simp [enc,size]; omega
theorem flds_setF (o:AObj) (i v:Nat):(o.setF i v).flds=o.flds.set i v:=by
 unfold setF flds
 split
 ·rename_i h; simp only; rw [List.set_append_left _ _ h]
 ·rename_i h; simp only; rw [List.set_append_right _ _ (by omega)]
theorem head_setF (o:AObj) (i v:Nat):(o.setF i v).head=o.head:=by
 unfold setF
 split
 ·simp [head]
 ·simp [head]
theorem size_setF (o:AObj) (i v:Nat):(o.setF i v).size=o.size:=by
 simp [size,flds_setF]
theorem head_plain {o:AObj} (h:o.Ok) (hf:o.fwd=none):o.head=hdw o.kind o.refs.length o.raws.length∧o.head < 9223372036854775808:=by
 unfold head
 rw [hf]
 have:=h.k2; have:=h.nr; have:=h.nw
 exact ⟨rfl,by unfold hdw; simp only; omega⟩
end AObj
def wordsOf (os:List AObj):List Nat:=0 :: os.flatMap AObj.enc
def used (os:List AObj):Nat:=(wordsOf os).length
def pos (os:List AObj) (i:Nat):Nat:=used (os.take i)
/-- The number of the object that begins at a place (p: where the first one does). -/
def idxFrom:List AObj→Nat→Nat→Option Nat
 | [],_,_=>none
 | o :: r,p,at_=>if at_=p then some 0 else (idxFrom r (p + o.size) at_).map (· + 1)
def idx (os:List AObj) (at_:Nat):Option Nat:=idxFrom os 1 at_
theorem used_eq (os:List AObj):used os=1 + (os.map AObj.size).sum:=by
 unfold used wordsOf
 rw [List.length_cons,List.length_flatMap]
 have:(os.map fun a=>a.enc.length)=os.map AObj.size:=List.map_congr_left fun o _=>o.enc_len
 rw [this]; omega
theorem used_nil:used []=1:=rfl
theorem used_app (a b:List AObj):used (a ++ b)=used a + used b - 1:=by
 simp only [used_eq,List.map_append,List.sum_append]; omega
theorem used_snoc (os:List AObj) (o:AObj):used (os ++ [o])=used os + o.size:=by
 simp only [used_eq,List.map_append,List.sum_append,List.map_cons,List.map_nil,List.sum_cons,List.sum_nil]; omega
theorem used_pos (os:List AObj):1 ≤ used os:=by rw [used_eq]; omega
theorem wordsOf_snoc (os:List AObj) (o:AObj):wordsOf (os ++ [o])=wordsOf os ++ o.enc:=by
 simp [wordsOf]
theorem size_pos (o:AObj):1 ≤ o.size:=by unfold AObj.size; omega
theorem pos_succ {os:List AObj} {i:Nat} {o:AObj} (h:os[i]?=some o):pos os (i + 1)=pos os i + o.size:=by
 unfold pos
 obtain ⟨hi,he⟩:=List.getElem?_eq_some_iff.1 h
 rw [List.take_add_one,h,Option.toList_some,used_snoc]
theorem pos_ge (os:List AObj) (i:Nat):1 ≤ pos os i:=used_pos _
theorem pos_len (os:List AObj):pos os os.length=used os:=by unfold pos; rw [List.take_length]
theorem pos_mono {os:List AObj} {i j:Nat} (h:i ≤ j):pos os i ≤ pos os j:=by
 unfold pos
 have e:os.take j=os.take i ++ (os.drop i).take (j - i):=by
  rw [← List.take_add]; congr 1; omega
 rw [e,used_app]
 have:=used_pos ((os.drop i).take (j - i))
 omega
theorem pos_lt {os:List AObj} {i j:Nat} (h:i < j) (hj:j ≤ os.length):pos os i < pos os j:=by
 have hi:i < os.length:=by omega
 have h1:=pos_succ (os:=os) (i:=i) (List.getElem?_eq_getElem hi)
 have h2:=pos_mono (os:=os) (i:=i + 1) (j:=j) h
 have:=size_pos os[i]
 omega
theorem pos_lt_used {os:List AObj} {i:Nat} (h:i < os.length):pos os i < used os:=by
 rw [← pos_len]; exact pos_lt h (Nat.le_refl _)
theorem pos_size_le {os:List AObj} {i:Nat} {o:AObj} (h:os[i]?=some o):pos os i + o.size ≤ used os:=by
 rw [← pos_succ h,← pos_len]
 obtain ⟨hi,_⟩:=List.getElem?_eq_some_iff.1 h
 exact pos_mono hi
theorem pos_inj {os:List AObj} {i j:Nat} (hi:i < os.length) (hj:j < os.length) (h:pos os i=pos os j):i=j:=by
 rcases Nat.lt_trichotomy i j with hl | hl | hl
 ·have:=pos_lt hl (Nat.le_of_lt hj); omega
 ·exact hl
 ·have:=pos_lt hl (Nat.le_of_lt hi); omega
theorem idxFrom_some:∀ (os:List AObj) (p a i:Nat),idxFrom os p a=some i ↔ i < os.length∧p + (((os.take i).map AObj.size).sum)=a:=by
 intro os
 induction os with
 | nil=>intro p a i; simp [idxFrom]
 | cons o r ih =>
  intro p a i
  unfold idxFrom
  split
  ·rename_i h
   subst h
   cases i with
   | zero=>simp
   | succ i =>
    have:=size_pos o
    constructor
    ·intro h; simp at h
    ·rintro ⟨_,h⟩; simp at h; omega
  ·rename_i h
   cases i with
   | zero=>simp; omega
   | succ i =>
    simp only [Option.map_eq_some_iff,Nat.add_right_cancel_iff,exists_eq_right,ih,List.length_cons,List.take_succ_cons,List.map_cons,List.sum_cons]
    constructor
    ·rintro ⟨h1,h2⟩; exact ⟨by omega,by omega⟩
    ·rintro ⟨h1,h2⟩; exact ⟨by omega,by omega⟩
theorem idx_some {os:List AObj} {a i:Nat}:idx os a=some i ↔ i < os.length∧pos os i=a:=by
 unfold idx pos
 rw [idxFrom_some,used_eq]
theorem idx_pos {os:List AObj} {i:Nat} (h:i < os.length):idx os (pos os i)=some i:=idx_some.2 ⟨h,rfl⟩
theorem idx_zero (os:List AObj):idx os 0=none:=by
 cases h:idx os 0 with
 | none=>rfl
 | some i=>have:=(idx_some.1 h).2; have:=pos_ge os i; omega
theorem idx_lt {os:List AObj} {a i:Nat} (h:idx os a=some i):a < used os:=by
 obtain ⟨h1,h2⟩:=idx_some.1 h
 rw [← h2]; exact pos_lt_used h1
theorem idx_none_of_ge {os:List AObj} {a:Nat} (h:used os ≤ a):idx os a=none:=by
 cases hi:idx os a with
 | none=>rfl
 | some i=>have:=idx_lt hi; omega
theorem pos_snoc {os:List AObj} {o:AObj} {i:Nat} (h:i ≤ os.length):pos (os ++ [o]) i=pos os i:=by
 unfold pos
 rw [List.take_append_of_le_length h]
theorem idx_snoc (os:List AObj) (o:AObj) (a:Nat):idx (os ++ [o]) a=if a=used os then some os.length else idx os a:=by
 split
 ·rename_i h
  subst h
  rw [idx_some]
  exact ⟨by simp,by rw [pos_snoc (Nat.le_refl _),pos_len]⟩
 ·rename_i h
  cases hi:idx os a with
  | some i =>
   obtain ⟨h1,h2⟩:=idx_some.1 hi
   rw [idx_some]
   exact ⟨by simp; omega,by rw [pos_snoc (Nat.le_of_lt h1),h2]⟩
  | none =>
   cases hj:idx (os ++ [o]) a with
   | none=>rfl
   | some j =>
    obtain ⟨h1,h2⟩:=idx_some.1 hj
    by_cases hl:j < os.length
    ·rw [pos_snoc (Nat.le_of_lt hl)] at h2
     rw [idx_some.2 ⟨hl,h2⟩] at hi
     cases hi
    ·have:j=os.length:=by simp at h1; omega
     subst this
     rw [pos_snoc (Nat.le_refl _),pos_len] at h2
     exact absurd h2.symm h
/-- A place's word. -/
theorem words_split {os:List AObj} {i:Nat} {o:AObj} (h:os[i]?=some o):∃ r,wordsOf os=wordsOf (os.take i) ++ (o.enc ++ r):=by
 obtain ⟨hi,he⟩:=List.getElem?_eq_some_iff.1 h
 refine ⟨(os.drop (i + 1)).flatMap AObj.enc,?_⟩
 have e:os=os.take i ++ o :: os.drop (i + 1):=by
  rw [← he,← List.drop_eq_getElem_cons hi,List.take_append_drop]
 conv=>lhs; rw [e]
 simp [wordsOf]
theorem word_head {os:List AObj} {i:Nat} {o:AObj} (h:os[i]?=some o):(wordsOf os)[pos os i]?=some o.head:=by
 obtain ⟨r,e⟩:=words_split h
 rw [e,List.getElem?_append_right (by show (wordsOf (os.take i)).length ≤ used (os.take i); exact Nat.le_refl _)]
 have:pos os i - (wordsOf (os.take i)).length=0:=by show used (os.take i) - used (os.take i)=0; omega
 rw [this]; rfl
theorem word_fld {os:List AObj} {i j:Nat} {o:AObj} (h:os[i]?=some o) (hj:j < o.flds.length):(wordsOf os)[pos os i + 1 + j]?=o.flds[j]?:=by
 obtain ⟨r,e⟩:=words_split h
 rw [e,List.getElem?_append_right (by show used (os.take i) ≤ used (os.take i) + 1 + j; omega)]
 have:pos os i + 1 + j - (wordsOf (os.take i)).length=j + 1:=by show used (os.take i) + 1 + j - used (os.take i)=j + 1; omega
 rw [this]
 unfold AObj.enc
 rw [List.cons_append,List.getElem?_cons_succ,List.getElem?_append_left hj]
theorem pos_modify {os:List AObj} {i j:Nat} {f:AObj→AObj} (hf:∀ o,(f o).size=o.size):pos (os.modify i f) j=pos os j:=by
 unfold pos
 rw [used_eq,used_eq]
 congr 2
 rw [List.map_take,List.map_take]
 congr 1
 apply List.ext_getElem?
 intro k
 rw [List.getElem?_map,List.getElem?_map,List.getElem?_modify]
 cases os[k]? with
 | none=>rfl
 | some o=>simp only [Option.map_some]; split <;> simp [hf]
theorem used_modify {os:List AObj} {i:Nat} {f:AObj→AObj} (hf:∀ o,(f o).size=o.size):used (os.modify i f)=used os:=by
 have:=pos_modify (os:=os) (i:=i) (j:=os.length) hf
 rw [← pos_len,← pos_len,List.length_modify]; exact this
theorem idx_modify {os:List AObj} {i a:Nat} {f:AObj→AObj} (hf:∀ o,(f o).size=o.size):idx (os.modify i f) a=idx os a:=by
 cases h:idx os a with
 | some j =>
  obtain ⟨h1,h2⟩:=idx_some.1 h
  exact idx_some.2 ⟨by simpa using h1,by rw [pos_modify hf,h2]⟩
 | none =>
  cases hj:idx (os.modify i f) a with
  | none=>rfl
  | some j =>
   obtain ⟨h1,h2⟩:=idx_some.1 hj
   rw [pos_modify hf] at h2
   rw [idx_some.2 ⟨by simpa using h1,h2⟩] at h
   cases h
theorem words_modify {os:List AObj} {i:Nat} {o:AObj} {f:AObj→AObj} (h:os[i]?=some o) (j v:Nat) (hj:j < o.size) (he:(f o).enc=o.enc.set j v) :
  wordsOf (os.modify i f)=(wordsOf os).set (pos os i + j) v:=by
 obtain ⟨hi,hio⟩:=List.getElem?_eq_some_iff.1 h
 have e:os=os.take i ++ o :: os.drop (i + 1):=by
  rw [← hio,← List.drop_eq_getElem_cons hi,List.take_append_drop]
 have e2:os.modify i f=os.take i ++ f o :: os.drop (i + 1):=by
  rw [List.modify_eq_take_cons_drop hi,hio]
 rw [e2]
 have hl:(wordsOf (os.take i)).length=pos os i:=rfl
 have e3:wordsOf os=wordsOf (os.take i) ++ (o.enc ++ (os.drop (i + 1)).flatMap AObj.enc):=by
  conv=>lhs; rw [e]
  simp [wordsOf]
 rw [e3,List.set_append_right _ _ (by omega),hl,Nat.add_sub_cancel_left,List.set_append_left _ _ (by rw [AObj.enc_len]; exact hj),← he]
 simp [wordsOf]
theorem words_setF {os:List AObj} {i j v:Nat} {o:AObj} (h:os[i]?=some o) (hj:j < o.flds.length) :
  wordsOf (os.modify i fun o=>o.setF j v)=(wordsOf os).set (pos os i + 1 + j) v:=by
 rw [show pos os i + 1 + j=pos os i + (j + 1) by omega]
 refine words_modify h (j + 1) v (by unfold AObj.size; omega) ?_
 unfold AObj.enc
 rw [AObj.head_setF,AObj.flds_setF,List.set_cons_succ]
theorem words_fwd {os:List AObj} {i t:Nat} {o:AObj} (h:os[i]?=some o) :
  wordsOf (os.modify i fun o=>{ o with fwd:=some t })=(wordsOf os).set (pos os i) (9223372036854775808 + t):=by
 exact words_modify h 0 _ (size_pos o) rfl
/-! ### The bits that say where an object begins -/
def bitAt (fs:List Nat) (p:Nat):Bool:=(fs.getD (p / 64) 0).testBit (p % 64)
structure FirstOk (fs:List Nat) (os:List AObj):Prop where
 bit:∀ p,bitAt fs p=(idx os p).isSome
 len:used os ≤ fs.length * 64
 lt:∀ x ∈ fs,x < 18446744073709551616
theorem FirstOk.modify {fs:List Nat} {os:List AObj} {i:Nat} {f:AObj→AObj} (h:FirstOk fs os) (hf:∀ o,(f o).size=o.size):FirstOk fs (os.modify i f) :=
 ⟨fun p=>by rw [idx_modify hf]; exact h.bit p,by rw [used_modify hf]; exact h.len,h.lt⟩
theorem bitAt_zeros (fs:List Nat) (k p:Nat):bitAt (fs ++ List.replicate k 0) p=bitAt fs p:=by
 unfold bitAt
 congr 1
 rw [List.getD_eq_getElem?_getD,List.getD_eq_getElem?_getD]
 by_cases h:p / 64 < fs.length
 ·rw [List.getElem?_append_left h]
 ·rw [List.getElem?_append_right (by omega),List.getElem?_eq_none (l:=fs) (by omega),List.getElem?_replicate]
  split <;> rfl
theorem bitAt_set {fs:List Nat} {a p:Nat} (h:a / 64 < fs.length):bitAt (fs.set (a / 64) (fs.getD (a / 64) 0 ||| 2 ^ (a % 64))) p=(bitAt fs p || p == a):=by
 unfold bitAt
 rw [List.getD_eq_getElem?_getD,List.getD_eq_getElem?_getD (l:=fs) (i:=p / 64)]
 by_cases hp:p / 64=a / 64
 ·rw [hp,List.getElem?_set_self h,Option.getD_some,Nat.testBit_or,Nat.testBit_two_pow,List.getD_eq_getElem?_getD]
  congr 1
  rw [Bool.eq_iff_iff]
  simp only [decide_eq_true_eq,beq_iff_eq]
  omega
 ·rw [List.getElem?_set_ne (by omega)]
  have:(p == a)=false:=by rw [beq_eq_false_iff_ne]; intro e; subst e; exact hp rfl
  rw [this,Bool.or_false]
theorem FirstOk.snoc {fs:List Nat} {os:List AObj} {o:AObj} (h:FirstOk fs os) {k:Nat} (hl:used os + o.size ≤ (fs.length + k) * 64) :
  FirstOk ((fs ++ List.replicate k 0).set (used os / 64) ((fs ++ List.replicate k 0).getD (used os / 64) 0 ||| 2 ^ (used os % 64))) (os ++ [o]):=by
 have hs:=size_pos o
 have hlt:used os / 64 < (fs ++ List.replicate k 0).length:=by simp; omega
 refine ⟨fun p=>?_,?_,?_⟩
 ·rw [bitAt_set hlt,bitAt_zeros,h.bit,idx_snoc]
  by_cases hp:p=used os
  ·rw [if_pos hp]; simp [hp]
  ·rw [if_neg hp]; simp [hp]
 ·rw [used_snoc]; simp; omega
 ·intro x hx
  rcases List.mem_or_eq_of_mem_set hx with hx | hx
  ·rcases List.mem_append.1 hx with hx | hx
   ·exact h.lt x hx
   ·rw [(List.mem_replicate.1 hx).2]; omega
  ·rw [hx]
   have h1:(fs ++ List.replicate k 0).getD (used os / 64) 0 < 2 ^ 64:=by
    rw [List.getD_eq_getElem?_getD,List.getElem?_eq_getElem hlt,Option.getD_some]
    have:=List.getElem_mem hlt
    rcases List.mem_append.1 this with hx | hx
    ·exact h.lt _ hx
    ·rw [(List.mem_replicate.1 hx).2]; omega
   have h2:2 ^ (used os % 64) < 2 ^ 64:=Nat.pow_lt_pow_right (by omega) (by omega)
   exact Nat.or_lt_two_pow h1 h2
theorem firstOk_nil:FirstOk [0] []:=by
 refine ⟨fun p=>?_,by simp [used_nil],by simp⟩
 unfold bitAt
 have:([0]:List Nat).getD (p / 64) 0=0:=by
  rw [List.getD_eq_getElem?_getD]
  cases p / 64 with
  | zero=>rfl
  | succ n=>simp
 rw [this]
 simp [idx,idxFrom]
end Go.Ev
set_option linter.all false
namespace Go.Ev
/-! ### Blocks of cells -/
def ad (b:Nat):Addr:=⟨b,0,none⟩
def Row (h:Hp) (b:Nat) (cs:List Value):Prop:=∃ t,h[b]?=some (.cells cs.toArray t (0,0))
def Kept (S:Nat→Prop) (h h':Hp):Prop:=h.size ≤ h'.size∧∀ b,b < h.size→¬ S b→h'[b]?=h[b]?
theorem Kept.refl (S:Nat→Prop) (h:Hp):Kept S h h:=⟨Nat.le_refl _,fun _ _ _=>rfl⟩
theorem Kept.trans {S:Nat→Prop} {a b c:Hp} (h:Kept S a b) (k:Kept S b c):Kept S a c :=
 ⟨Nat.le_trans h.1 k.1,fun i hi hs=>(k.2 i (Nat.lt_of_lt_of_le hi h.1) hs).trans (h.2 i hi hs)⟩
theorem Kept.mono {S T:Nat→Prop} {a b:Hp} (h:Kept S a b) (hst:∀ i,i < a.size→S i→T i):Kept T a b :=
 ⟨h.1,fun i hi ht=>h.2 i hi fun hs=>ht (hst i hi hs)⟩
theorem add_mk (b o n:Nat):(⟨b,o,none⟩:Addr).add n=⟨b,o + n,none⟩:=by
 unfold Addr.add
 split
 ·rename_i h; subst h; rfl
 ·rfl
theorem add_ad (b n:Nat):(ad b).add n=⟨b,n,none⟩:=by rw [ad,add_mk,Nat.zero_add]
theorem row_lt {h:Hp} {b:Nat} {cs:List Value} (hr:Row h b cs):b < h.size:=by
 obtain ⟨t,ht⟩:=hr
 exact (Array.getElem?_eq_some_iff.1 ht).1
theorem cell_row {h:Hp} {b:Nat} {cs:List Value} (hr:Row h b cs) (o:Nat):cell h ⟨b,o,none⟩=cs[o]?:=by
 obtain ⟨t,ht⟩:=hr
 unfold cell
 simp only [ht]
 simp
theorem cell_ad {h:Hp} {b:Nat} {cs:List Value} (hr:Row h b cs):cell h (ad b)=cs[0]?:=cell_row hr 0
theorem frz_row {h:Hp} {b:Nat} {cs:List Value} (hr:Row h b cs) (o:Nat):frz h ⟨b,o,none⟩=false:=by
 obtain ⟨t,ht⟩:=hr
 unfold frz
 simp only [ht]
 simp
theorem stOk_row {h:Hp} {b:Nat} {cs:List Value} (hr:Row h b cs) {o:Nat} (ho:o < cs.length):stOk h ⟨b,o,none⟩ :=
 ⟨⟨_,by rw [cell_row hr,List.getElem?_eq_getElem ho]⟩,frz_row hr o⟩
theorem size_setc (h:Hp) (a:Addr) (v:Value):(setc h a v).size=h.size:=by simp [setc]
theorem setc_ne (h:Hp) (a:Addr) (v:Value) {b:Nat} (hb:b ≠ a.block):(setc h a v)[b]?=h[b]?:=by
 unfold setc
 rw [Array.getElem?_modify,if_neg (fun e=>hb e.symm)]
theorem row_setc {h:Hp} {b:Nat} {cs:List Value} (hr:Row h b cs) (o:Nat) (v:Value):Row (setc h ⟨b,o,none⟩ v) b (cs.set o v):=by
 obtain ⟨t,ht⟩:=hr
 refine ⟨t,?_⟩
 unfold setc
 rw [Array.getElem?_modify,if_pos rfl,ht]
 simp
theorem row_setc_ne {h:Hp} {b:Nat} {cs:List Value} (hr:Row h b cs) {a:Addr} (v:Value) (hb:b ≠ a.block):Row (setc h a v) b cs:=by
 obtain ⟨t,ht⟩:=hr
 exact ⟨t,by rw [setc_ne _ _ _ hb]; exact ht⟩
theorem row_keep {h h':Hp} {b:Nat} {cs:List Value} (hr:Row h b cs) (e:h'[b]?=h[b]?):Row h' b cs:=by
 obtain ⟨t,ht⟩:=hr
 exact ⟨t,by rw [e]; exact ht⟩
theorem push_old (h:Hp) (o:Obj) {b:Nat} (hb:b < h.size):(h.push o)[b]?=h[b]?:=by
 rw [Array.getElem?_push,if_neg (by omega)]
theorem row_push {h:Hp} {b:Nat} {cs:List Value} (hr:Row h b cs) (o:Obj):Row (h.push o) b cs:=row_keep hr (push_old h o (row_lt hr))
theorem row_new (h:Hp) (cs:Array Value) (t:TypeId):Row (h.push (.cells cs t)) h.size cs.toList:=⟨t,by simp⟩
theorem kept_setc (h:Hp) {b:Nat} (o:Nat) (v:Value) {S:Nat→Prop} (hS:S b):Kept S h (setc h ⟨b,o,none⟩ v) :=
 ⟨by rw [size_setc]; exact Nat.le_refl _,fun i _ hi=>setc_ne h _ v (fun e=>hi (e ▸ hS))⟩
theorem kept_push (h:Hp) (o:Obj) (S:Nat→Prop):Kept S h (h.push o):=⟨by simp,fun i hi _=>push_old h o hi⟩
theorem kept_row {S:Nat→Prop} {h h':Hp} (k:Kept S h h') {b:Nat} {cs:List Value} (hr:Row h b cs) (hb:¬ S b):Row h' b cs:=row_keep hr (k.2 b (row_lt hr) hb)

/-- cells overwritten from a place on -/
def ovw (cs:List Value) (o:Nat) (l:List Value):List Value:=cs.take o ++ l ++ cs.drop (o + l.length)
theorem ovw_len {cs l:List Value} {o:Nat} (h:o + l.length ≤ cs.length):(ovw cs o l).length=cs.length:=by simp [ovw]; omega
theorem ovw_set {cs:List Value} {o:Nat} {v:Value} {l:List Value} (h:o + (v :: l).length ≤ cs.length):ovw (cs.set o v) (o + 1) l=ovw cs o (v :: l):=by
 simp only [List.length_cons] at h
 have ho:o < cs.length:=by omega
 have e:cs.set o v=cs.take o ++ v :: cs.drop (o + 1):=by rw [List.set_eq_take_append_cons_drop,if_pos ho]
 have hl:(cs.take o).length=o:=by rw [List.length_take]; omega
 have e1:(cs.set o v).take (o + 1)=cs.take o ++ [v]:=by
  rw [e,List.take_append,hl,List.take_of_length_le (by omega),show o + 1 - o=1 by omega]
  rfl
 have e2:(cs.set o v).drop (o + 1 + l.length)=cs.drop (o + (l.length + 1)):=by
  rw [e,List.drop_append,hl,List.drop_of_length_le (by omega),show o + 1 + l.length - o=l.length + 1 by omega,List.drop_succ_cons,List.drop_drop,List.nil_append]
  congr 1
  omega
 unfold ovw
 rw [e1,List.length_cons,e2]
 simp
theorem row_setcs {b:Nat}:∀ (l:List Value) (h:Hp) (cs:List Value) (o i:Nat),Row h b cs→o + i + l.length ≤ cs.length→Row (setcs h ⟨b,o,none⟩ l i) b (ovw cs (o + i) l):=by
 intro l
 induction l with
 | nil=>intro h cs o i hr hl; unfold setcs ovw; simpa using hr
 | cons v l ih =>
  intro h cs o i hr hl
  unfold setcs
  rw [add_mk]
  have:=ih (setc h ⟨b,o + i,none⟩ v) (cs.set (o + i) v) o (i + 1) (row_setc hr _ _) (by simp at hl ⊢; omega)
  rwa [← Nat.add_assoc,ovw_set (by simpa using hl)] at this
theorem stsOk_row {b:Nat}:∀ (l:List Value) (h:Hp) (cs:List Value) (o i:Nat),Row h b cs→o + i + l.length ≤ cs.length→(∀ v ∈ l,isCell v=true)→stsOk h ⟨b,o,none⟩ l i:=by
 intro l
 induction l with
 | nil=>intros; trivial
 | cons v l ih =>
  intro h cs o i hr hl hc
  refine ⟨hc v (List.mem_cons_self ..),?_,?_⟩
  ·rw [add_mk]; exact stOk_row hr (by simp at hl; omega)
  ·rw [add_mk]
   exact ih _ (cs.set (o + i) v) o (i + 1) (row_setc hr _ _) (by simp at hl ⊢; omega) fun u hu=>hc u (List.mem_cons_of_mem _ hu)
theorem setcs_ne {b:Nat}:∀ (l:List Value) (h:Hp) (o i:Nat) {k:Nat},k ≠ b→(setcs h ⟨b,o,none⟩ l i)[k]?=h[k]?:=by
 intro l
 induction l with
 | nil=>intros; rfl
 | cons v l ih =>
  intro h o i k hk
  unfold setcs
  rw [ih _ _ _ hk,add_mk,setc_ne _ _ _ hk]
theorem size_setcs {b:Nat}:∀ (l:List Value) (h:Hp) (o i:Nat),(setcs h ⟨b,o,none⟩ l i).size=h.size:=by
 intro l
 induction l with
 | nil=>intros; rfl
 | cons v l ih=>intro h o i; unfold setcs; rw [ih,size_setc]
theorem kept_setcs (h:Hp) {b:Nat} (o i:Nat) (l:List Value) {S:Nat→Prop} (hS:S b):Kept S h (setcs h ⟨b,o,none⟩ l i) :=
 ⟨by rw [size_setcs]; exact Nat.le_refl _,fun k _ hk=>setcs_ne l h o i (fun e=>hk (e ▸ hS))⟩
theorem reads_row {h:Hp} {b:Nat} {cs:List Value} (hr:Row h b cs) {o:Nat} {l:List Value} (hl:∀ j v,l[j]?=some v→cs[o + j]?=some v):Reads h ⟨b,o,none⟩ l:=by
 intro j v hj
 rw [add_mk,cell_row hr]
 exact hl j v hj

/-! ### Slices that own a row from its head -/
structure SlAt (sz:Nat) (h:Hp) (a:Option Addr) (n c:Nat) (ob:Option Nat) (vs:List Value):Prop where
 len:vs.length=n * sz
 nil:ob=none→a=none∧n=0∧c=0
 row:∀ b,ob=some b→a=some (ad b)∧n ≤ c∧∃ junk,Row h b (vs ++ junk)∧vs.length + junk.length=c * sz
theorem SlAt.keep {sz:Nat} {h h':Hp} {a:Option Addr} {n c:Nat} {ob:Option Nat} {vs:List Value} (s:SlAt sz h a n c ob vs) (hk:∀ b,ob=some b→h'[b]?=h[b]?):SlAt sz h' a n c ob vs :=
 ⟨s.len,s.nil,fun b hb=>by obtain ⟨h1,h2,j,h3,h4⟩:=s.row b hb; exact ⟨h1,h2,j,row_keep h3 (hk b hb),h4⟩⟩
theorem slAt_nil (sz:Nat) (h:Hp):SlAt sz h none 0 0 none []:=⟨by simp,fun _=>⟨rfl,rfl,rfl⟩,fun b hb=>by cases hb⟩
theorem SlAt.lt {sz:Nat} {h:Hp} {a:Option Addr} {n c b:Nat} {vs:List Value} (s:SlAt sz h a n c (some b) vs):b < h.size:=by
 obtain ⟨_,_,j,hr,_⟩:=s.row b rfl
 exact row_lt hr
theorem SlAt.cell {sz:Nat} {h:Hp} {a:Option Addr} {n c b:Nat} {vs:List Value} (s:SlAt sz h a n c (some b) vs) {o:Nat} (ho:o < vs.length):cell h ⟨b,o,none⟩=vs[o]?:=by
 obtain ⟨_,_,j,hr,_⟩:=s.row b rfl
 rw [cell_row hr,List.getElem?_append_left ho]
theorem SlAt.set {sz:Nat} {h:Hp} {a:Option Addr} {n c b:Nat} {vs:List Value} (s:SlAt sz h a n c (some b) vs) {o:Nat} (ho:o < vs.length) (v:Value) :
  stOk h ⟨b,o,none⟩∧SlAt sz (setc h ⟨b,o,none⟩ v) a n c (some b) (vs.set o v):=by
 obtain ⟨h1,h2,j,hr,hc⟩:=s.row b rfl
 refine ⟨stOk_row hr (by simp; omega),by rw [List.length_set]; exact s.len,nofun,fun b' hb=>?_⟩
 obtain rfl:b=b':=by simpa using hb
 refine ⟨h1,h2,j,?_,by simpa using hc⟩
 have:=row_setc hr o v
 rwa [List.set_append_left _ _ ho] at this
theorem zrow_one (v:Value) (n:Nat):zrow #[v] (n * 1)=(List.replicate n v).toArray:=by
 rw [Nat.mul_one]
 unfold zrow
 apply Array.ext'
 apply List.ext_getElem?
 intro i
 simp only [Array.toList_map,Array.toList_range,List.getElem?_map]
 by_cases hi:i < n
 ·rw [List.getElem?_range hi,Option.map_some,List.getElem?_replicate,if_pos hi]
  simp [Nat.mod_one]
 ·rw [List.getElem?_eq_none (by simp; omega),List.getElem?_eq_none (by simp; omega)]
  rfl
theorem zrow_len (z:Array Value) (n:Nat):(zrow z n).size=n:=by simp [zrow]

/-- append: what follows for the appended slice, wherever it lies. -/
theorem appT_ok2 {e sz bys:Nat} {z:Array Value} {a:Option Addr} {n c m:Nat} {ob:Option Nat} {vs news:List Value} {h:Hp} {K:Option Addr→Nat→Nat→Hp→Prop}
  (s:SlAt sz h a n c ob vs) (hz:z.size=sz) (hl:news.length=m * sz) (hcell:∀ v ∈ news,isCell v=true) (hb:(2 * (n + m) + 768) * bys ≤ 2 ^ 48) (hlt:n + m < 2 ^ 62)
  (hK:∀ a' c' ob' h',SlAt sz h' a' (n + m) c' ob' (vs ++ news)→(ob'=ob∧Kept (fun b=>ob=some b) h h' ∨ ob'=some h.size∧Kept (fun _=>False) h h')→K a' (n + m) c' h') :
  appT e sz bys z a n c (n + m) news h K:=by
 have hvl:=s.len
 refine ⟨fun hc=>?_,fun hc=>⟨hb,hlt,?_⟩⟩
 ·cases ob with
  | none =>
   obtain ⟨rfl,rfl,rfl⟩:=s.nil rfl
   obtain rfl:m=0:=by omega
   have hn:news=[]:=List.length_eq_zero_iff.1 (by omega)
   have hv:vs=[]:=List.length_eq_zero_iff.1 (by omega)
   subst hn hv
   exact hK none 0 none h (slAt_nil sz h) (.inl ⟨rfl,Kept.refl _ _⟩)
  | some b =>
   obtain ⟨rfl,h2,j,hr,hcl⟩:=s.row b rfl
   show stsOk h ((ad b).add (n * sz)) news 0∧_
   rw [add_ad]
   have hfit:n * sz + 0 + news.length ≤ (vs ++ j).length:=by
    rw [List.length_append,hcl,hl]
    have:=Nat.mul_le_mul_right sz hc
    rw [Nat.add_mul] at this
    omega
   refine ⟨stsOk_row news h _ _ 0 hr hfit hcell,?_⟩
   refine hK (some (ad b)) c (some b) _ ⟨by simp [hvl,hl,Nat.add_mul],nofun,fun b' hb'=>?_⟩ (.inl ⟨rfl,kept_setcs h _ _ _ rfl⟩)
   obtain rfl:b=b':=by simpa using hb'
   refine ⟨rfl,hc,j.drop news.length,?_,?_⟩
   ·have:=row_setcs news h _ (n * sz) 0 hr hfit
    rw [Nat.add_zero] at this
    have e1:ovw (vs ++ j) (n * sz) news=vs ++ news ++ j.drop news.length:=by
     unfold ovw
     rw [← hvl,List.take_left,List.drop_append]
     congr 2
     ·rw [List.drop_eq_nil_of_le (by omega)]
      simp
    rwa [e1] at this
   ·rw [List.length_append,List.length_drop,hl]
    rw [List.length_append,hcl] at hfit
    omega
 ·refine ⟨vs,?_,hvl,fun nc h1 h2=>?_⟩
  ·cases ob with
   | none =>
    obtain ⟨rfl,rfl,rfl⟩:=s.nil rfl
    exact List.length_eq_zero_iff.1 (by omega)
   | some b =>
    obtain ⟨rfl,_,j,hr,_⟩:=s.row b rfl
    exact reads_row hr fun i v hv=>by
     rw [Nat.zero_add,List.getElem?_append_left (List.getElem?_eq_some_iff.1 hv).1]; exact hv
  ·refine hK _ nc (some h.size) _ ⟨by simp [hvl,hl,Nat.add_mul],nofun,fun b' hb'=>?_⟩ (.inr ⟨rfl,kept_push _ _ _⟩)
   obtain rfl:h.size=b':=by simpa using hb'
   refine ⟨rfl,h1,(zrow z ((nc - (n + m)) * z.size)).toList,?_,?_⟩
   ·have:=row_new h (vs.toArray ++ news.toArray ++ zrow z ((nc - (n + m)) * z.size)) e
    simpa using this
   ·have e1:(zrow z ((nc - (n + m)) * z.size)).toList.length=(nc - (n + m)) * sz:=by
     rw [Array.length_toList,zrow_len,hz]
    rw [e1,List.length_append,hvl,hl,← Nat.add_mul,← Nat.add_mul]
    congr 1
    omega
theorem Cond_dec {p:Prop} [Decidable p] {A B:Prop} (h1:p→A) (h2:¬ p→B):Cond (decide p) A B:=by
 by_cases h:p
 ·simp only [h,decide_true]; exact h1 h
 ·simp only [h,decide_false]; exact h2 h
theorem Cond_b {t:Bool} {A B:Prop} (h1:t=true→A) (h2:t=false→B):Cond t A B:=by
 cases t with
 | true=>exact h1 rfl
 | false=>exact h2 rfl
theorem Cond_t {t:Bool} {A B:Prop} (h:t=true) (h1:A):Cond t A B:=by subst h; exact h1
theorem Cond_f {t:Bool} {A B:Prop} (h:t=false) (h1:B):Cond t A B:=by subst h; exact h1
end Go.Ev
