/- Regions, code and loops for the evaluator. No condition. -/
import Derived.Test.YtdkopnbjommjdaaK6
set_option linter.all false
namespace Go.Ev

/-! ### Guards -/
def evG (ops : Array Oper) (o : Oper) (env : List Value) (exec skip : List Value → Prop) : Prop :=
  match o.guard with
  | none => exec env
  | some (j, want) =>
    match (ops[j]?).bind (·.dst) with
    | none => skip env
    | some s =>
      match env[s]? with
      | some (.bool t) => Cond t (if want = true then exec (env.set s (.bool true)) else skip (env.set s (.bool true))) (if want = true then skip (env.set s (.bool false)) else exec (env.set s (.bool false)))
      | _ => skip env

/-! ### Quiet operations -/
inductive Cls where
  | pure
  | read
  | qcall (f : FuncId) (args : List Value)
  | qinvoke (f : FuncId) (t : TypeId) (recv : Value) (args : List Value)
  | loud
def clsOf (T : Tab) (o : Oper) (env : List Value) : Cls :=
  match o.op with
  | .load .. => .read
  | .store .. => .loud
  | .alloc _ => .loud
  | .box .. => .loud
  | .buildSlice .. => .loud
  | .makeMap .. => .loud
  | .makeSlice .. => .loud
  | .insert .. => .loud
  | .lookup .. => .loud
  | .mapUpdate .. => .loud
  | .mapEntry .. => .loud
  | .entryStore .. => .loud
  | .range .. => .loud
  | .next .. => .loud
  | .entry .. => .loud
  | .makeChan .. => .loud
  | .defer .. => .loud
  | .convert .. => .pure
  | .call c =>
    match c.callee with
    | .value f =>
      match evalL env f with
      | .func (.func g) first captured => if T.quiet g then .qcall g (first.toList ++ c.args.toList.map (evalL env) ++ captured.toList) else .loud
      | _ => .loud
    | .invoke r m =>
      match T.meth m with
      | some (t, f) => if T.quiet f then .qinvoke f t (evalL env r) (c.args.toList.map (evalL env)) else .loud
      | none => .loud
    | .builtin .len => .pure
    | .builtin .cap => .pure
    | .builtin .min => .pure
    | .builtin .max => .pure
    | .builtin _ => .loud
  | _ => .pure
def isLoud (T : Tab) (o : Oper) (env : List Value) : Bool := match clsOf T o env with | .loud => true | _ => false
def valOf : Next → (Value → Prop) → Prop
  | .value v, K => K v
  | _, _ => False
/-- A quiet operation: its value, and what must hold of a heap for it to yield that value there. -/
def evQ (P : Program) (T : Tab) (o : Oper) (env : List Value) (h : Hp) (K : Value → Option (Hp → Prop) → Prop) : Prop :=
  match clsOf T o env with
  | .pure => evPureM P T o env fun v => K v none
  | .read => rdSem P (execOp (evalL env) o) (match o.op with | .load t _ => T.tk t | _ => []) h fun nx _ => valOf nx fun v =>
      K v (some fun h' => rdSem P (execOp (evalL env) o) (match o.op with | .load t _ => T.tk t | _ => []) h' fun nx' _ => nx' = .value v)
  | .qcall f args => Cond (T.callee f) (resEx (T.rk f) fun v =>
      CallTo P f args.toArray h (fun v' h' => v' = v ∧ h' = h) ∧ K v (some fun h' => CallTo P f args.toArray h' fun v' h'' => v' = v ∧ h'' = h')) False
  | .qinvoke f t recv args => ∃ a : Option Addr, recv = .iface t (.pointer a) ∧ resEx (T.rk f) fun v =>
      CallTo P f (.pointer a :: args).toArray h (fun v' h' => v' = v ∧ h' = h) ∧ K v (some fun h' => CallTo P f (.pointer a :: args).toArray h' fun v' h'' => v' = v ∧ h'' = h')
  | .loud => False

def addP (i : Nat) (S : Option (Hp → Prop)) (ps : List Pend) : List Pend :=
  match S with
  | none => ps
  | some S => ⟨i, fun k => k == i, S⟩ :: ps
/-- Behind a loud operation: what is not surely past must hold still. -/
def oblK (o : Oper) (h : Hp) : List Pend → (List Pend → Prop) → Prop
  | [], X => X []
  | p :: ps, X => Cond (waits o p.W) (oblK o h ps X) (p.S h ∧ oblK o h ps fun qs => X (p :: qs))
def allL : List Nat → (Nat → Prop) → Prop
  | [], _ => True
  | [i], φ => φ i
  | i :: j :: is, φ => φ i ∧ allL (j :: is) φ

def evR (P : Program) (T : Tab) (ops : Array Oper) (Q : List Value → Hp → Prop) : Nat → List Pend → Array Bool → List Value → Hp → Prop
  | 0, _, listed, env, h => match Region.ready .any ops listed with | [] => Q env h | _ => False
  | fuel + 1, ps, listed, env, h =>
    match (Region.ready .any ops listed).find? fun i => match ops[i]? with | some o => !isLoud T o env | none => false with
    | some i =>
      match ops[i]? with
      | some o => Cond (Region.free .any ops listed i)
          (evG ops o env (fun env' => evQ P T o env' h fun v S => evR P T ops Q fuel (addP i S (hypL ps i o)) (listed.setIfInBounds i true) (putL env' o.dst v) h)
            (fun env' => evR P T ops Q fuel (hypL ps i o) (listed.setIfInBounds i true) (putL env' o.dst undef) h)) False
      | none => False
    | none =>
      match Region.ready .any ops listed with
      | [] => Q env h
      | r :: rs => allL (r :: rs) fun j =>
        match ops[j]? with
        | some o => evG ops o env (fun env' => evOp P T o env' h fun v h' => oblK o h' ps fun qs => evR P T ops Q fuel qs (listed.setIfInBounds j true) (putL env' o.dst v) h')
            (fun env' => oblK o h ps fun qs => evR P T ops Q fuel qs (listed.setIfInBounds j true) (putL env' o.dst undef) h)
        | none => False

/-! ### Straight regions, code -/
def evOps (P : Program) (T : Tab) (ops : Array Oper) : List Oper → List Value → Hp → (List Value → Hp → Prop) → Prop
  | [], env, h, Q => Q env h
  | o :: rest, env, h, Q => evG ops o env (fun env' => evOp P T o env' h fun v h' => evOps P T ops rest (putL env' o.dst v) h' Q)
      (fun env' => evOps P T ops rest (putL env' o.dst undef) h Q)

def mkEnv (n : Nat) (l : List (Nat × Value)) (g : Nat → Value) : List Value := (List.range n).map fun k => (l.lookup k).getD (g k)
theorem mkEnv_of {env : List Value} {n : Nat} {l : List (Nat × Value)} (hn : env.length = n) (hl : ∀ p ∈ l, env[p.1]? = some p.2) : env = mkEnv n l fun k => env.getD k undef := by
  subst hn
  apply List.ext_getElem?
  intro k
  unfold mkEnv
  by_cases hk : k < env.length
  · rw [List.getElem?_map, List.getElem?_range hk, Option.map_some]
    cases hlk : l.lookup k with
    | none => simp [hk]
    | some v =>
      have : ∀ (l : List (Nat × Value)), l.lookup k = some v → (k, v) ∈ l := by
        intro l
        induction l with
        | nil => intro h; cases h
        | cons p l ih =>
          intro h
          obtain ⟨a, b⟩ := p
          rw [List.lookup_cons] at h
          split at h
          · rename_i hab
            obtain rfl : b = v := by simpa using h
            obtain rfl : k = a := by simpa using hab
            exact List.mem_cons_self ..
          · exact List.mem_cons_of_mem _ (ih h)
      exact hl _ (this l hlk)
  · rw [List.getElem?_eq_none (by omega), List.getElem?_eq_none (by simp; omega)]
theorem mkEnv_self (s : List Nat) (env : List Value) : mkEnv env.length (s.map fun k => (k, env.getD k undef)) (fun k => env.getD k undef) = env := by
  apply List.ext_getElem?
  intro k
  unfold mkEnv
  by_cases hk : k < env.length
  · rw [List.getElem?_map, List.getElem?_range hk, Option.map_some]
    have : ∀ (l : List Nat) (v : Value), (l.map fun k => (k, env.getD k undef)).lookup k = some v → v = env.getD k undef := by
      intro l
      induction l with
      | nil => intro v h; cases h
      | cons p l ih =>
        intro v h
        rw [List.map_cons, List.lookup_cons] at h
        split at h
        · rename_i hab
          obtain rfl : k = p := by simpa using hab
          simpa using h.symm
        · exact ih v h
    cases hlk : (s.map fun k => (k, env.getD k undef)).lookup k with
    | none => simp [hk]
    | some v => rw [this s v hlk]; simp [hk]
  · rw [List.getElem?_eq_none (by simp; omega), List.getElem?_eq_none (by omega)]
abbrev Kc := Exit → List Value → Hp → Prop
def seqK (next : List Value → Hp → Prop) (Q : Kc) : Kc
  | .normal, env, h => next env h
  | e, env, h => Q e env h
def blockK (id : Nat) (Q : Kc) : Kc
  | .exit id', env, h => if id' = id then Q .normal env h else Q (.exit id') env h
  | e, env, h => Q e env h
def loopK (I : Nat → List Value → Hp → Prop) (n : Nat) (Q : Kc) : Kc
  | .normal, env, h => ∃ m, m < n ∧ I m env h
  | e, env, h => Q e env h
/-- A loop, by a relation with a count that every round lowers. 'l': the slots that matter at its head; whatever stands in the others. -/
def LoopEv (ev : Kc → List Value → Hp → Prop) (Q : Kc) (l : List (Nat × Value)) (N : Nat) (h : Hp) : Prop :=
  ∃ (I : Nat → List Value → Hp → Prop) (n : Nat), (∀ g, I n (mkEnv N l g) h) ∧ ∀ n env h, I n env h → ev (loopK I n Q) env h
/-- The number of the first region: a loop's mark. -/
def firstR : Code → Nat
  | .region id _ _ => id
  | .seq a _ => firstR a
  | .cond _ a _ => firstR a
  | .block _ c => firstR c
  | .loop c => firstR c
  | _ => 0
def pairsOf (s : List Nat) (env : List Value) : List (Nat × Value) := s.map fun k => (k, env.getD k undef)
def evC (P : Program) (T : Tab) (lv : Nat → List Nat) : Code → Kc → List Value → Hp → Prop
  | .skip, Q, env, h => Q .normal env h
  | .ret, Q, env, h => Q .ret env h
  | .exit id, Q, env, h => Q (.exit id) env h
  | .seq a b, Q, env, h => evC P T lv a (seqK (evC P T lv b Q) Q) env h
  | .cond c a b, Q, env, h => match evalL env c with
    | .bool t => Cond t (evC P T lv a Q env h) (evC P T lv b Q env h)
    | _ => False
  | .block id c, Q, env, h => evC P T lv c (blockK id Q) env h
  | .loop c, Q, env, h => LoopEv (evC P T lv c) Q (pairsOf (lv (firstR c)) env) env.length h
  | .region _ ops draw, Q, env, h =>
    if draw = true then evR P T ops (Q .normal) ops.size [] (Array.replicate ops.size false) env h
    else evOps P T ops ops.toList env h (Q .normal)
  | _, _, _, _ => False

/-! ### Soundness -/
def lift (D : List Deferred) (w0 : World) (Q : Kc) (e : Exit) (a : Act) (w : World) : Prop :=
  Same w0 w ∧ ∃ env, a = actL env D ∧ match e with | .normal => Q .normal env w.heap | .exit id => Q (.exit id) env w.heap | .ret => Q .ret env w.heap | _ => False

section
variable {P : Program} {T : Tab} {D : List Deferred} {w0 : World}
theorem Cond.split {t : Bool} {A B : Prop} (h : Cond t A B) : (t = true ∧ A) ∨ (t = false ∧ B) := by
  cases t with
  | true => exact .inl ⟨rfl, h⟩
  | false => exact .inr ⟨rfl, h⟩
theorem wanted_none {ops : Array Oper} {o : Oper} {a : Act} (hg : o.guard = none) : Region.wanted o (yielded ops a.tmps) = true := by
  unfold Region.wanted
  rw [hg]
theorem yielded_at {ops : Array Oper} {j s : Nat} {env : List Value} (hs : (ops[j]?).bind (·.dst) = some s) :
    yielded ops env.toArray j = match env[s]? with | some (.bool b) => some b | _ => none := by
  unfold yielded
  rw [hs]
  simp only [Option.bind_some, List.getElem?_toArray]
  rcases env[s]? with _ | v
  · rfl
  · cases v <;> rfl
theorem set_same {env : List Value} {s : Nat} {v : Value} (h : env[s]? = some v) : env.set s v = env := by
  apply List.ext_getElem?
  intro k
  by_cases hk : s = k
  · subst hk
    rw [List.getElem?_set_self (by exact (List.getElem?_eq_some_iff.1 h).1), h]
  · rw [List.getElem?_set_ne hk]
/-- Either the operation is wanted, and 'exec' holds of the frame, or it is not, and 'skip' does. -/
theorem evG_sound {ops : Array Oper} {o : Oper} {env : List Value} {exec skip : List Value → Prop} (h : evG ops o env exec skip) :
    (Region.wanted o (yielded ops env.toArray) = true ∧ exec env) ∨ (Region.wanted o (yielded ops env.toArray) = false ∧ skip env) := by
  unfold evG at h
  split at h
  · rename_i hg
    exact .inl ⟨by unfold Region.wanted; rw [hg], h⟩
  · rename_i j want hg
    split at h
    · rename_i hs
      refine .inr ⟨?_, h⟩
      unfold Region.wanted yielded
      simp only [hg, hs]
      cases want <;> rfl
    · rename_i s hs
      have hy := yielded_at (env := env) hs
      split at h
      · rename_i t ht
        rw [ht] at hy
        rcases h.split with ⟨rfl, hc⟩ | ⟨rfl, hc⟩
        · rw [set_same ht] at hc
          cases want with
          | true => exact .inl ⟨by unfold Region.wanted; simp only [hg, hy]; rfl, by simpa using hc⟩
          | false => exact .inr ⟨by unfold Region.wanted; simp only [hg, hy]; rfl, by simpa using hc⟩
        · rw [set_same ht] at hc
          cases want with
          | true => exact .inr ⟨by unfold Region.wanted; simp only [hg, hy]; rfl, by simpa using hc⟩
          | false => exact .inl ⟨by unfold Region.wanted; simp only [hg, hy]; rfl, by simpa using hc⟩
      · rename_i hne
        refine .inr ⟨?_, h⟩
        unfold Region.wanted
        simp only [hg, hy]
        cases want <;> rfl

theorem OpOk.wp {o : Oper} {env : List Value} {w : World} {K : Value → Hp → Prop} (hs0 : Same w0 w) (h : OpOk P o env w K) {next : Act → World → Prop} {Q : Exit → Act → World → Prop}
    (hn : ∀ v w', Same w0 w' → K v w'.heap → next (actL (putL env o.dst v) D) w') : o.wp P (actL env D) w next Q := by
  unfold Oper.wp
  rw [eval_actL]
  rcases h with ⟨v, w', hr, hs, hk⟩ | ⟨f, args, hr, hc⟩
  · have := hn v w' (hs0.trans hs) hk
    rw [← put_actL] at this
    rcases hr with hr | ⟨hr, rfl⟩
    · rw [hr, Oper.upon_value]; exact this
    · rw [hr, Oper.upon_skip]; exact this
  · rw [hr, Oper.upon_enter]
    refine (hc w rfl).mono fun e w' ⟨v, he, hs, hk⟩ => ?_
    subst he
    have := hn v w' (hs0.trans hs) hk
    rw [← put_actL] at this
    exact this

theorem evOps_sound (hT : TabOk P T) {ops : Array Oper} {Q : Kc} : ∀ (l : List Oper) (k : Nat) (env : List Value) (w : World), (∀ i, l[i]? = ops[k + i]?) → Same w0 w →
    evOps P T ops l env w.heap (Q .normal) → wpOps P ops (lift D w0 Q) (List.range' k l.length) (actL env D) w := by
  intro l
  induction l with
  | nil => intro k env w _ hs h; exact ⟨hs, env, rfl, h⟩
  | cons o rest ih =>
    intro k env w hl hs h
    have ho : ops[k]? = some o := by have := hl 0; simpa using this.symm
    have hl' : ∀ i, rest[i]? = ops[k + 1 + i]? := fun i => by have := hl (i + 1); rw [show k + (i + 1) = k + 1 + i by omega] at this; simpa using this
    rw [List.length_cons, List.range'_succ, wpOps_cons]
    unfold wpOp
    simp only [ho]
    have e : (actL env D).tmps = env.toArray := rfl
    rw [e]
    unfold evOps at h
    rcases evG_sound h with ⟨hw, h⟩ | ⟨hw, h⟩
    · rw [if_pos hw]
      exact .inl (OpOk.wp hs (evOp_sound hT h) fun v w' hs' hk => ih (k + 1) _ w' hl' hs' hk)
    · rw [hw]
      simp only [Bool.false_eq_true, if_false]
      rw [put_actL]
      exact ih (k + 1) _ w hl' hs h

theorem VK.ex_keep {k : VK} {φ : Value → Prop} (h : k.ex φ) : ∃ v, φ v ∧ ∀ ψ : Value → Prop, ψ v → k.ex ψ := by
  cases k <;> (obtain ⟨x, hx⟩ := h; exact ⟨_, hx, fun ψ hψ => ⟨x, hψ⟩⟩)
theorem rdSem_exact {α : Type} : ∀ (s : Sem α) (vs : List VK) (h : Hp) (K : α → List VK → Prop), rdSem P s vs h K → ∃ a vs', K a vs' ∧ rdSem P s vs h fun a' _ => a' = a := by
  intro s
  induction s with
  | pure a => exact fun vs h K hk => ⟨a, vs, hk, rfl⟩
  | load m a k ih =>
    intro vs h K hk
    obtain ⟨v, ⟨hv, hr⟩, keep⟩ := VK.ex_keep hk
    obtain ⟨x, vs', hK, hx⟩ := ih v _ _ _ hr
    exact ⟨x, vs', hK, keep _ ⟨hv, hx⟩⟩
  | shape r k ih => exact fun vs h K hk => ih _ vs h K hk
  | getObj r k ih =>
    intro vs h K hk
    obtain ⟨o, ho, hn, hr⟩ := hk
    obtain ⟨x, vs', hK, hx⟩ := ih o _ _ _ hr
    exact ⟨x, vs', hK, o, ho, hn, hx⟩
  | program k ih => exact fun vs h K hk => ih _ vs h K hk
  | _ => exact fun vs h K hk => hk.elim
theorem run_call {o : Oper} {c : Call} {f : Operand} {env : List Value} {g : FuncId} {first captured : Array Value} (hop : o.op = .call c) (hf : c.callee = .value f) (hv : evalL env f = .func (.func g) first captured)
    (hg : Callable P g) (w : World) : (execOp (evalL env) o).run P w = .ok (.enter g (first.toList ++ c.args.toList.map (evalL env) ++ captured.toList).toArray) w := by
  have ha : first ++ c.args.map (evalL env) ++ captured = (first.toList ++ c.args.toList.map (evalL env) ++ captured.toList).toArray := by
    apply Array.ext'
    simp
  simp only [execOp, hop, run_bind, resolve, hf, hv, Deferred.ofValue, run_pure, invoke]
  rw [ha, hg]
theorem run_invoke (hT : TabOk P T) {o : Oper} {c : Call} {r : Operand} {m : String} {env : List Value} {t : TypeId} {f : FuncId} {a : Option Addr} (hop : o.op = .call c) (hr : c.callee = .invoke r m) (hm : T.meth m = some (t, f))
    (ha : evalL env r = .iface t (.pointer a)) (w : World) : (execOp (evalL env) o).run P w = .ok (.enter f (.pointer a :: c.args.toList.map (evalL env)).toArray) w := by
  have hg := hT.meth m t f hm
  simp only [execOp, hop, run_bind, resolve, hr, ha, run_pure, invoke]
  have e0 : (#[Value.iface t (.pointer a)] ++ c.args.map (evalL env))[0]? = some (Value.iface t (.pointer a)) := by
    rw [Array.getElem?_append_left (by simp)]
    rfl
  have ha' : #[Value.pointer a] ++ (#[Value.iface t (.pointer a)] ++ c.args.map (evalL env)).extract 1 (#[Value.iface t (.pointer a)] ++ c.args.map (evalL env)).size = (.pointer a :: c.args.toList.map (evalL env)).toArray := by
    apply Array.ext'
    simp [List.take_of_length_le]
  simp only [e0]
  rw [hg, ha']
theorem quiet_call {f : FuncId} {args : Array Value} {v : Value} {w : World} (h : CallTo P f args w.heap fun v' h' => v' = v ∧ h' = w.heap) :
    Calls P f args w fun e w' => e = .returned v ∧ Same w w' ∧ w'.heap = w.heap :=
  (h w rfl).mono fun _ _ ⟨_, he, hs, hv, hh⟩ => ⟨by rw [he, hv], hs, hh⟩
theorem evQ_sound (hT : TabOk P T) {o : Oper} {env : List Value} {h : Hp} {K : Value → Option (Hp → Prop) → Prop} (hq : evQ P T o env h K) :
    ∃ v S, K v S ∧ (S.getD (fun _ => True)) h ∧ ∀ w : World, (S.getD (fun _ => True)) w.heap → ((execOp (evalL env) o).run P w = .ok (.value v) w ∨ ∃ f args, (execOp (evalL env) o).run P w = .ok (.enter f args) w ∧
      Calls P f args w fun e w' => e = .returned v ∧ Same w w' ∧ w'.heap = w.heap) := by
  unfold evQ at hq
  split at hq
  · obtain ⟨v, hv, hk⟩ := evPureM_sound hT hq
    exact ⟨v, none, hk, trivial, fun w _ => .inl (hv w)⟩
  · obtain ⟨nx, vs, hk, hr⟩ := rdSem_exact _ _ _ _ hq
    cases nx <;> first | exact hk.elim | skip
    rename_i v
    refine ⟨v, _, hk, hr, fun w' hS => ?_⟩
    obtain ⟨nx', vs', hr', hk'⟩ := rdSem_sound _ _ _ _ hS
    rw [hk'] at hr'
    exact .inl hr'
  · rename_i f args hcls
    obtain ⟨hc, hq⟩ := Cond_true' hq
    obtain ⟨v, hcall, hk⟩ := resEx_some hq
    have hg := hT.callee f hc
    refine ⟨v, _, hk, hcall, fun w' hS => .inr ⟨f, args.toArray, ?_, quiet_call hS⟩⟩
    unfold clsOf at hcls
    split at hcls <;> first | (cases hcls; done) | skip
    rename_i c hop
    split at hcls
    · rename_i f' hf
      split at hcls
      · rename_i g first captured hv
        split at hcls
        · simp only [Cls.qcall.injEq] at hcls
          obtain ⟨rfl, rfl⟩ := hcls
          exact run_call hop hf hv hg w'
        · cases hcls
      · cases hcls
    · split at hcls
      · split at hcls <;> cases hcls
      · cases hcls
    · cases hcls
    · cases hcls
    · cases hcls
    · cases hcls
    · cases hcls
  · rename_i f t recv args hcls
    obtain ⟨a, ha, hq⟩ := hq
    obtain ⟨v, hcall, hk⟩ := resEx_some hq
    refine ⟨v, _, hk, hcall, fun w' hS => .inr ⟨f, _, ?_, quiet_call hS⟩⟩
    unfold clsOf at hcls
    split at hcls <;> first | (cases hcls; done) | skip
    rename_i c hop
    split at hcls
    · split at hcls
      · split at hcls <;> cases hcls
      · cases hcls
    · rename_i r m hr
      split at hcls
      · rename_i t' f' hm
        split at hcls
        · simp only [Cls.qinvoke.injEq] at hcls
          obtain ⟨rfl, rfl, rfl, rfl⟩ := hcls
          exact run_invoke hT hop hr hm ha w'
        · cases hcls
      · cases hcls
    · cases hcls
    · cases hcls
    · cases hcls
    · cases hcls
    · cases hcls
  · exact hq.elim
end
end Go.Ev
