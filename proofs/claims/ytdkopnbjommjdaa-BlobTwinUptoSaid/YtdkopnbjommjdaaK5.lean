/- One operation of the program, calls too, and its soundness. No condition. -/
import Derived.Test.YtdkopnbjommjdaaK4
import Derived.Laws.BytesString
set_option linter.all false
namespace Go.Ev

inductive RK where
  | leaf (k : VK)
  | agg (ks : List VK)
def leavesEx : List VK → (List Value → Prop) → Prop
  | [], φ => φ []
  | k :: ks, φ => k.ex fun v => leavesEx ks fun vs => φ (v :: vs)
def RK.ex : RK → (Value → Prop) → Prop
  | .leaf k, φ => k.ex φ
  | .agg ks, φ => leavesEx ks fun vs => φ (.agg vs.toArray)
def ressEx : List RK → (List Value → Prop) → Prop
  | [], φ => φ []
  | k :: ks, φ => k.ex fun v => ressEx ks fun vs => φ (v :: vs)
def resEx : List RK → (Value → Prop) → Prop
  | [], φ => φ (.tuple #[])
  | [k], φ => k.ex φ
  | ks, φ => ressEx ks fun vs => φ (.tuple vs.toArray)
theorem leavesEx_some : ∀ {ks : List VK} {φ : List Value → Prop}, leavesEx ks φ → ∃ v, φ v
  | [], _, h => ⟨_, h⟩
  | k :: ks, _, h => by
    obtain ⟨v, h⟩ := VK.ex_some (k := k) h
    obtain ⟨vs, h⟩ := leavesEx_some h
    exact ⟨_, h⟩
theorem RK.ex_some {k : RK} {φ : Value → Prop} (h : k.ex φ) : ∃ v, φ v := by
  cases k with
  | leaf k => exact VK.ex_some h
  | agg ks => obtain ⟨vs, h⟩ := leavesEx_some h; exact ⟨_, h⟩
theorem ressEx_some : ∀ {ks : List RK} {φ : List Value → Prop}, ressEx ks φ → ∃ v, φ v
  | [], _, h => ⟨_, h⟩
  | k :: ks, _, h => by
    obtain ⟨v, h⟩ := RK.ex_some (k := k) h
    obtain ⟨vs, h⟩ := ressEx_some h
    exact ⟨_, h⟩
theorem resEx_some {ks : List RK} {φ : Value → Prop} (h : resEx ks φ) : ∃ v, φ v := by
  unfold resEx at h
  split at h
  · exact ⟨_, h⟩
  · exact RK.ex_some h
  · obtain ⟨vs, h⟩ := ressEx_some h; exact ⟨_, h⟩

/-- What the evaluator goes by: kinds are hints and owe nothing. -/
structure Tab where
  tk : TypeId → List VK
  rk : FuncId → List RK
  quiet : FuncId → Bool
  callee : FuncId → Bool
  meth : String → Option (TypeId × FuncId)
  ext : FuncId → Bool := fun _ => false

def Callable (P : Program) (f : FuncId) : Prop := ∀ (args : Array Value) (w : World), (callFunc f args).run P w = .ok (.enter f args) w
structure TabOk (P : Program) (T : Tab) : Prop where
  callee : ∀ f, T.callee f = true → Callable P f
  meth : ∀ m t f, T.meth m = some (t, f) → ∀ (a : Option Addr) (args : Array Value) (w : World),
    (callMethod (.iface t (.pointer a)) m args).run P w = .ok (.enter f (#[.pointer a] ++ args)) w
  ahead : ∀ m t f, T.meth m = some (t, f) → ∀ (a : Addr) (w : World), (nilAhead (P.types.size + Made.depth) t (.pointer (some a)) m).run P w = .ok (some false) w

/-- As evPure; and a method value's nil check. -/
def evPureM (P : Program) (T : Tab) (o : Oper) (env : List Value) (K : Value → Prop) : Prop :=
  match o.op with
  | .nilCheck x =>
    match evalL env x with
    | .func (.method m) first captured =>
      match T.meth m, first.toList with
      | some (t, _), [r] => ∃ a : Addr, r = .iface t (.pointer (some a)) ∧ K (.func (.method m) first captured)
      | _, _ => False
    | _ => evPure P o env K
  | _ => evPure P o env K
/-- A call of a function without a body that answers at once and leaves all as it is. -/
def ExtTo (P : Program) (f : FuncId) (args : Array Value) (h : Hp) (v : Value) : Prop := ∀ w : World, w.heap = h → (callFunc f args).run P w = .ok (.value v) w
def callEv (P : Program) (T : Tab) (f : FuncId) (args : Array Value) (h : Hp) (K : Value → Hp → Prop) : Prop :=
  Cond (T.callee f) (CallTo P f args h fun v h' => resEx (T.rk f) fun u => v = u ∧ K u h') (Cond (T.ext f) (resEx (T.rk f) fun u => ExtTo P f args h u ∧ K u h) False)
def ofNext (K : Value → Hp → Prop) : Next → List VK → Hp → Prop
  | .value v, _, h => K v h
  | .skip, _, h => K undef h
  | _, _, _ => False
def clrO (z : Array Value) (a : Option Addr) (n : Nat) (h : Hp) (K : Hp → Prop) : Prop :=
  match a with
  | none => K h
  | some b => stsOk h b (zrow z (n * z.size)).toList 0 ∧ K (setcs h b (zrow z (n * z.size)).toList 0)
def clearEv (P : Program) (t : TypeId) (x : Value) (h : Hp) (K : Value → Hp → Prop) : Prop :=
  match P.underlying t, x with
  | some (.slice e), .slice a n _ =>
    match zeroOf P e with
    | some z => clrO z a n h fun h' => K (.tuple #[]) h'
    | none => False
  | _, _ => False
def builtinEv (P : Program) (o : Oper) (b : Builtin) (argTypes : Array TypeId) (args : List Value) (env : List Value) (h : Hp) (K : Value → Hp → Prop) : Prop :=
  match b, args with
  | .append, [s, x] => match argTypes[0]?, argTypes[1]? with
    | some st, some xt => appendEv P st xt s x h K
    | _, _ => False
  | .copy, [d, s] => match argTypes[0]? with
    | some dt => copyEv P dt d s h K
    | none => False
  | .clear, [x] => match argTypes[0]? with
    | some t => match x with
      | .slice _ _ _ => clearEv P t x h K
      | _ => evSem P (execOp (evalL env) o) [] h (ofNext K)
    | none => False
  | .len, [x] => match x with
    | .map _ => rdSem P (execOp (evalL env) o) [] h fun nx vs => ofNext K nx vs h
    | _ => evPure P o env fun v => K v h
  | .cap, _ => evPure P o env fun v => K v h
  | .min, _ => evPure P o env fun v => K v h
  | .max, _ => evPure P o env fun v => K v h
  | _, _ => evSem P (execOp (evalL env) o) [] h (ofNext K)
/-- A load of so many cells that the value is kept whole. -/
def Great (h : Hp) (a : Addr) (n : Nat) (v : Value) : Prop := ∃ l : List Value, l.length = n ∧ Reads h a l ∧ v = .agg l.toArray
def loadEv (P : Program) (T : Tab) (o : Oper) (t : TypeId) (a : Value) (env : List Value) (h : Hp) (K : Value → Hp → Prop) : Prop :=
  match T.tk t with
  | [] => match P.underlying t with
    | some (.array _ _) => match a with
      | .pointer (some b) => Cond (P.info? t).isSome (∃ v, Great h b (szOf P t) v ∧ K v h) False
      | _ => False
    | _ => rdSem P (execOp (evalL env) o) [] h fun nx vs => ofNext K nx vs h
  | k :: ks => rdSem P (execOp (evalL env) o) (k :: ks) h fun nx vs => ofNext K nx vs h
/-- A block told to hold a text. -/
def markH (h : Hp) (b : Nat) : Hp := h.modify b fun
  | .cells c e (lo, hi) => .cells c e (if lo == hi then (c.size, c.size + 1) else (min lo c.size, max hi (c.size + 1)))
  | o => o
/-- What n bytes from a place on spell. -/
def Spells (h : Hp) (a : Option Addr) (n : Nat) (s : ByteArray) : Prop := s.size = n ∧ ReadsO h a (s.data.toList.map fun b => .int .u8 b.toNat)
def convEv (P : Program) (T : Tab) (o : Oper) (src dst : TypeId) (x : Value) (env : List Value) (h : Hp) (K : Value → Hp → Prop) : Prop :=
  match x with
  | .slice a n _ => match P.underlying src, P.underlying dst with
    | some (.slice e), some .string => match P.underlying e with
      | some (.int .u8) => ∃ s : ByteArray, Spells h a n s ∧ K (.string s) h
      | _ => False
    | some (.slice _), some (.slice e) => match P.underlying e with
      | some (.int .u8) => Cond (src == dst) (PtrOk a fun p => K x (markH h p.block)) False
      | _ => False
    | _, _ => False
  | .string s => match P.underlying src, P.underlying dst with
    | some _, some (.slice e) => match P.underlying e with
      | some (.int .u8) => s.size < 2 ^ 62 ∧ ∀ nc, s.size ≤ nc → nc < 2 ^ 63 → K (.slice (some ⟨h.size, 0, none⟩) s.size nc)
          (h.push (.cells ((s.data.map fun b => Value.int .u8 b.toNat) ++ Array.replicate (nc - s.size) (.int .u8 0)) e (nc, nc + 1)))
      | _ => False
    | _, _ => evPureM P T o env fun v => K v h
  | _ => evPureM P T o env fun v => K v h
def evOp (P : Program) (T : Tab) (o : Oper) (env : List Value) (h : Hp) (K : Value → Hp → Prop) : Prop :=
  match o.op with
  | .load t a => loadEv P T o t (evalL env a) env h K
  | .convert src dst x => convEv P T o src dst (evalL env x) env h K
  | .store .. => evSem P (execOp (evalL env) o) [] h (ofNext K)
  | .alloc _ => evSem P (execOp (evalL env) o) [] h (ofNext K)
  | .box .. => evSem P (execOp (evalL env) o) [] h (ofNext K)
  | .buildSlice .. => evSem P (execOp (evalL env) o) [] h (ofNext K)
  | .makeMap .. => evSem P (execOp (evalL env) o) [] h (ofNext K)
  | .makeSlice t l c => makeEv P t (evalL env l) (evalL env c) h K
  | .call c =>
    match c.callee with
    | .value f =>
      match evalL env f with
      | .func (.func g) first captured => callEv P T g ((first.toList ++ c.args.toList.map (evalL env) ++ captured.toList).toArray) h K
      | _ => False
    | .invoke r m =>
      match T.meth m with
      | some (t, f) => ∃ a : Option Addr, evalL env r = .iface t (.pointer a) ∧ CallTo P f ((.pointer a :: c.args.toList.map (evalL env)).toArray) h fun v h' => resEx (T.rk f) fun u => v = u ∧ K u h'
      | none => False
    | .builtin b => builtinEv P o b c.argTypes (c.args.toList.map (evalL env)) env h K
  | _ => evPureM P T o env fun v => K v h

/-- What soundness of one operation is: it goes on with a value, or calls. -/
def OpOk (P : Program) (o : Oper) (env : List Value) (w : World) (K : Value → Hp → Prop) : Prop :=
  (∃ v w', ((execOp (evalL env) o).run P w = .ok (.value v) w' ∨ ((execOp (evalL env) o).run P w = .ok .skip w' ∧ v = undef)) ∧ Same w w' ∧ K v w'.heap) ∨
  (∃ f args, (execOp (evalL env) o).run P w = .ok (.enter f args) w ∧ CallTo P f args w.heap K)

section
variable {P : Program}
theorem ofNext_ok {o : Oper} {env : List Value} {w : World} {K : Value → Hp → Prop} {nx : Next} {vs : List VK} {w' : World}
    (hr : (execOp (evalL env) o).run P w = .ok nx w') (hs : Same w w') (hk : ofNext K nx vs w'.heap) : OpOk P o env w K := by
  cases nx <;> first | exact hk.elim | skip
  · exact .inl ⟨_, w', .inl hr, hs, hk⟩
  · exact .inl ⟨_, w', .inr ⟨hr, rfl⟩, hs, hk⟩
theorem opOk_evSem {o : Oper} {env : List Value} {w : World} {K : Value → Hp → Prop} {vs : List VK} (h : evSem P (execOp (evalL env) o) vs w.heap (ofNext K)) : OpOk P o env w K := by
  obtain ⟨nx, vs', w', hr, hs, hk⟩ := evSem_sound _ _ _ _ h
  exact ofNext_ok hr hs hk
theorem opOk_rdSem {o : Oper} {env : List Value} {w : World} {K : Value → Hp → Prop} {vs : List VK} (h : rdSem P (execOp (evalL env) o) vs w.heap fun nx vs => ofNext K nx vs w.heap) : OpOk P o env w K := by
  obtain ⟨nx, vs', hr, hk⟩ := rdSem_sound _ _ _ _ h
  exact ofNext_ok hr (Same.refl _) hk
theorem opOk_evPure {o : Oper} {env : List Value} {w : World} {K : Value → Hp → Prop} (h : evPure P o env fun v => K v w.heap) : OpOk P o env w K := by
  obtain ⟨v, hv, hk⟩ := evPure_sound h
  exact .inl ⟨v, w, .inl (hv w), Same.refl _, hk⟩
theorem evPureM_sound {T : Tab} (hT : TabOk P T) {o : Oper} {env : List Value} {K : Value → Prop} (h : evPureM P T o env K) : ∃ v, YieldsAll P o env v ∧ K v := by
  unfold evPureM at h
  split at h
  · rename_i x hop
    split at h
    · rename_i m first captured hx
      split at h
      · rename_i t f r hm hf
        obtain ⟨a, rfl, hk⟩ := h
        refine ⟨_, fun w => ?_, hk⟩
        have hf0 : first[0]? = some (Value.iface t (.pointer (some a))) := by
          rw [← Array.getElem?_toList, hf]; rfl
        have ha := hT.ahead m t _ hm a w
        simp only [execOp, hop, hx, hf0, run_bind, run_program, ha]
        rfl
      · exact h.elim
    · exact evPure_sound h
  · exact evPure_sound h
theorem opOk_evPureM {T : Tab} (hT : TabOk P T) {o : Oper} {env : List Value} {w : World} {K : Value → Hp → Prop} (h : evPureM P T o env fun v => K v w.heap) : OpOk P o env w K := by
  obtain ⟨v, hv, hk⟩ := evPureM_sound hT h
  exact .inl ⟨v, w, .inl (hv w), Same.refl _, hk⟩
theorem opOk_val {o : Oper} {env : List Value} {w w' : World} {v : Value} {K : Value → Hp → Prop} (hr : (execOp (evalL env) o).run P w = .ok (.value v) w') (hs : Same w w') (hk : K v w'.heap) : OpOk P o env w K :=
  .inl ⟨v, w', .inl hr, hs, hk⟩
theorem args_toList {α : Type} (f : Operand → α) (args : Array Operand) : args.map f = (args.toList.map f).toArray := by
  apply Array.ext'
  simp
theorem run_storeZ (a : Addr) (z : Array Value) (n : Nat) {w : World} (h : stsOk w.heap a (zrow z (n * z.size)).toList 0) :
    ∃ w', (storeCells a (Builtin.zeroCells z n).toList).run P w = .ok () w' ∧ Same w w' ∧ w'.heap = setcs w.heap a (zrow z (n * z.size)).toList 0 :=
  run_storeCells a _ 0 w h
theorem run_builtin {o : Oper} {c : Call} {b : Builtin} {env : List Value} {w : World} (ho : o.op = .call c) (hb : c.callee = .builtin b) :
    ∃ consts, (execOp (evalL env) o).run P w = (builtin b c.argTypes o.type consts (c.args.toList.map (evalL env)).toArray).run P w := by
  obtain ⟨consts, hc⟩ : ∃ consts, resolve (evalL env) c o.type = Pure.pure { target := .builtin b c.argTypes o.type consts, args := c.args.map (evalL env) } := by
    unfold resolve
    rw [hb]
    exact ⟨_, rfl⟩
  refine ⟨consts, ?_⟩
  simp only [execOp, ho, run_bind, hc, run_pure, invoke, args_toList (evalL env)]
theorem builtinEv_sound {o : Oper} {c : Call} {b : Builtin} {env : List Value} {w : World} {K : Value → Hp → Prop} (ho : o.op = .call c) (hb : c.callee = .builtin b)
    (h : builtinEv P o b c.argTypes (c.args.toList.map (evalL env)) env w.heap K) : OpOk P o env w K := by
  unfold builtinEv at h
  obtain ⟨consts, hrun⟩ := run_builtin (P := P) (env := env) (w := w) ho hb
  split at h
  · rename_i s x hargs
    split at h
    · rename_i st xt h0 h1
      obtain ⟨v, w', hr, hs, hk⟩ := append_sound (ty := o.type) h0 h1 h
      refine opOk_val ?_ hs hk
      rw [hrun, hargs]
      simp only [builtin, run_bind, hr, run_pure]
    · exact h.elim
  · rename_i d s hargs
    split at h
    · rename_i dt h0
      obtain ⟨v, w', hr, hs, hk⟩ := copy_sound (ty := o.type) h0 h
      refine opOk_val ?_ hs hk
      rw [hrun, hargs]
      simp only [builtin, run_bind, hr, run_pure]
    · exact h.elim
  · rename_i x hargs
    split at h
    · rename_i t h0
      split at h
      · unfold clearEv at h
        split at h
        · rename_i e a n c' ht heq
          rw [heq] at hargs
          split at h
          · rename_i z hz
            obtain ⟨i, v, hi, hv, rfl⟩ := zeroOf_some hz
            have g0 : (#[Value.slice a n c'] : Array Value)[0]? = some (Value.slice a n c') := rfl
            cases a with
            | none =>
              refine opOk_val (v := .tuple #[]) (w' := w) ?_ (Same.refl _) h
              rw [hrun, hargs]
              simp only [builtin, run_bind, Builtin.clear_, h0, g0, run_underlying ht]
              rfl
            | some a =>
              obtain ⟨h1, h2⟩ := h
              obtain ⟨w', hr, hs, hh⟩ := run_storeZ (P := P) a v.cells n h1
              refine opOk_val (v := .tuple #[]) (w' := w') ?_ hs (by rw [hh]; exact h2)
              rw [hrun, hargs]
              simp only [builtin, run_bind, Builtin.clear_, h0, g0, run_underlying ht]
              cases n with
              | zero =>
                have hh' : w'.heap = w.heap := by rw [hh]; simp [zrow, setcs]
                simp [Builtin.zeroCells, storeCells, run_pure] at hr
                rw [hr]
                rfl
              | succ n => simp only [run_bind, run_zeroValue hi hv, hr, run_pure]
          · exact h.elim
        · exact h.elim
      · exact opOk_evSem h
    · exact h.elim
  · split at h
    · exact opOk_rdSem h
    · exact opOk_evPure h
  · exact opOk_evPure h
  · exact opOk_evPure h
  · exact opOk_evPure h
  · exact opOk_evSem h
theorem modify_push {α : Type} (a : Array α) (o : α) (f : α → α) : (a.push o).modify a.size f = a.push (f o) := by
  apply Array.ext
  · simp
  · intro i h1 h2
    rw [Array.getElem_modify, Array.getElem_push, Array.getElem_push]
    have h3 : i < a.size + 1 := by simpa using h2
    by_cases hi : i < a.size
    · rw [if_neg (by omega)]; simp [hi]
    · rw [if_pos (by omega)]; simp [hi]
theorem foldl_push (l : List UInt8) : ∀ s : ByteArray, ((l.map fun b => (b.toNat : Int)).foldl (fun r n => r.push (UInt8.ofNat n.toNat)) s) = ⟨s.data ++ l.toArray⟩ := by
  induction l with
  | nil => intro s; simp
  | cons b l ih =>
    intro s
    simp only [List.map_cons, List.foldl_cons]
    rw [ih]
    congr 1
    simp [ByteArray.push]
theorem convEv_sound {T : Tab} (hT : TabOk P T) {o : Oper} {src dst : TypeId} {x : Operand} {env : List Value} {w : World} {K : Value → Hp → Prop} (hop : o.op = .convert src dst x)
    (h : convEv P T o src dst (evalL env x) env w.heap K) : OpOk P o env w K := by
  unfold convEv at h
  split at h
  · rename_i a n c hx
    split at h
    · rename_i e hs hd
      split at h
      · rename_i he
        obtain ⟨s, ⟨hn, hr⟩, hk⟩ := h
        refine opOk_val (v := .string s) (w' := w) ?_ (Same.refl _) hk
        simp only [execOp, hop, hx, run_bind, Go.run_convert_bytes_string w src dst e a n c hs he hd]
        cases a with
        | none =>
          have h0 : s.data.toList = [] := List.map_eq_nil_iff.1 hr
          have : s = ByteArray.empty := by
            cases s with
            | mk d => simp only [Array.toList_eq_nil_iff] at h0; subst h0; rfl
          subst this
          rfl
        | some a =>
          have hl : (s.data.toList.map fun b => Value.int .u8 b.toNat).length = n := by simp [← hn]
          have h1 := run_loadCells (P := P) hr hl
          have e1 : (s.data.toList.map fun b => Value.int .u8 b.toNat) = (s.data.toList.map fun b => (b.toNat : Int)).map (Value.int .u8) := by simp
          rw [e1] at h1
          rw [Go.run_bytesToString w a n c _ h1, foldl_push]
          simp only [run_pure]
          congr 3
          cases s
          simp
      · exact h.elim
    · rename_i e0 e hs hd
      split at h
      · rename_i he
        obtain ⟨hsd, h⟩ := Cond_true' h
        cases a with
        | none => exact h.elim
        | some p =>
          rw [hx] at h
          have h : K (.slice (some p) n c) (markH w.heap p.block) := h
          refine opOk_val (v := .slice (some p) n c) (w' := { w with heap := markH w.heap p.block }) ?_ ⟨rfl, rfl, rfl⟩ h
          have hconv : (convert src dst (.slice (some p) n c)).run P w = (do markStringish p; Pure.pure (Value.slice (some p) n c) : Sem Value).run P w := by
            unfold convert
            simp only [run_bind, run_underlying hs, run_underlying hd]
            simp only [run_bind, run_underlying he, hsd]
          have hmk : (markStringish p).run P w = .ok () { w with heap := markH w.heap p.block } := by
            unfold markStringish
            rw [run_bind]
            simp only [Go.shape, Sem.run]
            cases hb : w.heap[p.block]? with
            | none =>
              have : w.shape? p.block = none := by unfold World.shape?; rw [hb]
              simp only [this, run_pure]
              congr 1
              have : markH w.heap p.block = w.heap := by
                unfold markH
                apply Array.ext_getElem?
                intro i
                rw [Array.getElem?_modify]
                split
                · rename_i e; subst e; rw [hb]; rfl
                · rfl
              rw [this]
            | some ob =>
              cases ob with
              | cells cs el fr =>
                have : w.shape? p.block = some (el, cs.size) := by unfold World.shape?; rw [hb]
                simp only [this, freeze, Sem.run]
                have hq : (w.heap.modify p.block fun x => match x with
                    | Obj.cells c elem (lo, hi) => Obj.cells c elem (if lo == hi then (cs.size, cs.size + 1) else (min lo cs.size, max hi (cs.size + 1)))
                    | o => o) = markH w.heap p.block := by
                  unfold markH
                  apply Array.ext_getElem?
                  intro i
                  rw [Array.getElem?_modify, Array.getElem?_modify]
                  split
                  · rename_i e; subst e; rw [hb]; rfl
                  · rfl
                rw [← hq]
                rfl
              | _ =>
                have : w.shape? p.block = none := by unfold World.shape?; rw [hb]
                simp only [this, run_pure]
                congr 1
                have : markH w.heap p.block = w.heap := by
                  unfold markH
                  apply Array.ext_getElem?
                  intro i
                  rw [Array.getElem?_modify]
                  split
                  · rename_i e; subst e; rw [hb]; rfl
                  · rfl
                rw [this]
          simp only [execOp, hop, hx, run_bind, hconv, hmk, run_pure]
      · exact h.elim
    · exact h.elim
  · rename_i s hx
    split at h
    · rename_i d0 e hsrc hd
      split at h
      · rename_i he
        obtain ⟨hs, h⟩ := h
        have hs : s.size < 4611686018427387904 := hs
        generalize hnc : (Question.appendCap s.size 0 e).cut (w.tape w.drawn (Question.appendCap s.size 0 e)) = nc
        have hnc1 : s.size ≤ nc ∧ nc < 2 ^ 63 := by
          rw [← hnc]
          simp only [Question.cut]
          have := Nat.mod_lt (w.tape w.drawn (Question.appendCap s.size 0 e)) (show 0 < 2 ^ 63 - s.size by omega)
          omega
        have hsz : ((s.data.map fun b => Value.int .u8 b.toNat) ++ Array.replicate (nc - s.size) (Value.int .u8 0)).size = nc := by
          simp only [Array.size_append, Array.size_map, Array.size_replicate]
          have : s.data.size = s.size := rfl
          omega
        refine opOk_val (v := .slice (some ⟨w.heap.size, 0, none⟩) s.size nc)
          (w' := { w with drawn := w.drawn + 1, heap := w.heap.push (.cells ((s.data.map fun b => Value.int .u8 b.toNat) ++ Array.replicate (nc - s.size) (.int .u8 0)) e (nc, nc + 1)) })
          ?_ ⟨rfl, rfl, rfl⟩ (h nc hnc1.1 hnc1.2)
        simp only [execOp, hop, hx, run_bind]
        have hconv : ∀ w', (convert src dst (.string s)).run P w' = (Conv.stringToBytes e s).run P w' := by
          intro w'
          unfold convert
          simp only [run_bind, run_underlying hsrc, run_underlying hd]
          simp only [run_bind, run_underlying he]
        rw [hconv]
        unfold Conv.stringToBytes
        simp only [run_bind, run_choose (P := P) (q := .appendCap s.size 0 e) rfl, hnc, run_newRow]
        generalize hX : ((s.data.map fun b => Value.int .u8 b.toNat) ++ Array.replicate (nc - s.size) (Value.int .u8 0)) = X at hsz ⊢
        subst hsz
        have hsh : ({ w with heap := w.heap.push (Obj.cells X e), drawn := w.drawn + 1 } : World).shape? w.heap.size = some (e, X.size) := by
          simp [World.shape?]
        have hmk : (markStringish ⟨w.heap.size, 0, none⟩).run P { w with heap := w.heap.push (Obj.cells X e), drawn := w.drawn + 1 } = .ok () { w with heap := w.heap.push (Obj.cells X e (X.size, X.size + 1)), drawn := w.drawn + 1 } := by
          unfold markStringish
          rw [run_bind]
          simp only [Go.shape, Sem.run, hsh, freeze]
          simp only [World.freeze, run_pure, Sem.run, Nat.succ_ne_zero, if_false, modify_push]
          simp
        simp only [hmk, run_pure]
      · exact h.elim
    · exact opOk_evPureM hT h
  · exact opOk_evPureM hT h
theorem loadEv_sound {T : Tab} {o : Oper} {t : TypeId} {x : Operand} {env : List Value} {w : World} {K : Value → Hp → Prop} (hop : o.op = .load t x)
    (h : loadEv P T o t (evalL env x) env w.heap K) : OpOk P o env w K := by
  unfold loadEv at h
  split at h
  · split at h
    · rename_i n e ht
      split at h
      · rename_i b hx
        obtain ⟨hi, v, ⟨l, hl, hr, rfl⟩, hk⟩ := Cond_true' h
        refine opOk_val (v := .agg l.toArray) (w' := w) ?_ (Same.refl _) hk
        simp only [execOp, hop, hx, Instr.loadAt, Instr.sureAddr, run_bind, run_pure, loadVar, Go.isAgg, run_underlying ht, if_true, run_sizeOf hi, run_loadCells (P := P) hr hl]
      · exact h.elim
    · exact opOk_rdSem h
  · exact opOk_rdSem h
theorem evOp_sound {T : Tab} (hT : TabOk P T) {o : Oper} {env : List Value} {w : World} {K : Value → Hp → Prop} (h : evOp P T o env w.heap K) : OpOk P o env w K := by
  unfold evOp at h
  split at h
  · rename_i t a hop; exact loadEv_sound hop h
  · rename_i s d x hop; exact convEv_sound hT hop h
  · exact opOk_evSem h
  · exact opOk_evSem h
  · exact opOk_evSem h
  · exact opOk_evSem h
  · exact opOk_evSem h
  · rename_i t l c hop
    obtain ⟨v, w', hr, hs, hk⟩ := makeEv_sound h
    refine opOk_val ?_ hs hk
    simp only [execOp, hop, run_bind, hr, run_pure]
  · rename_i c hop
    split at h
    · rename_i f hf
      split at h
      · rename_i g first captured hv
        have ha : first ++ c.args.map (evalL env) ++ captured = (first.toList ++ c.args.toList.map (evalL env) ++ captured.toList).toArray := by
          apply Array.ext'
          simp
        unfold callEv at h
        cases hc : T.callee g with
        | false =>
          rw [hc] at h
          obtain ⟨_, hcall⟩ := Cond_true' (show Cond (T.ext g) _ False from h)
          obtain ⟨u, hu, hk⟩ := resEx_some hcall
          refine opOk_val (v := u) (w' := w) ?_ (Same.refl _) hk
          simp only [execOp, hop, run_bind, resolve, hf, hv, Deferred.ofValue, run_pure, invoke]
          rw [ha]
          exact hu w rfl
        | true =>
        rw [hc] at h
        have hcall : CallTo P g (first.toList ++ c.args.toList.map (evalL env) ++ captured.toList).toArray w.heap (fun v h' => resEx (T.rk g) fun u => v = u ∧ K u h') := h
        refine .inr ⟨g, _, ?_, hcall.mono fun v h' hv => ?_⟩
        · have hg := hT.callee g hc
          simp only [execOp, hop, run_bind, resolve, hf, hv, Deferred.ofValue, run_pure, invoke]
          rw [ha, hg]
        · obtain ⟨u, rfl, hk⟩ := resEx_some hv
          exact hk
      · exact h.elim
    · rename_i r m hr
      split at h
      · rename_i t f hm
        obtain ⟨a, ha, hcall⟩ := h
        refine .inr ⟨f, _, ?_, hcall.mono fun v h' hv => ?_⟩
        · have hg := hT.meth m t f hm
          simp only [execOp, hop, run_bind, resolve, hr, ha, run_pure, invoke]
          have e0 : (#[Value.iface t (.pointer a)] ++ c.args.map (evalL env))[0]? = some (Value.iface t (.pointer a)) := by
            rw [Array.getElem?_append_left (by simp)]
            rfl
          have ha' : #[Value.pointer a] ++ (#[Value.iface t (.pointer a)] ++ c.args.map (evalL env)).extract 1 (#[Value.iface t (.pointer a)] ++ c.args.map (evalL env)).size = (.pointer a :: c.args.toList.map (evalL env)).toArray := by
            apply Array.ext'
            simp [List.take_of_length_le]
          simp only [e0]
          rw [hg, ha']
        · obtain ⟨u, rfl, hk⟩ := resEx_some hv
          exact hk
      · exact h.elim
    · rename_i b hb
      exact builtinEv_sound hop hb h
  · exact opOk_evPureM hT h
end
end Go.Ev
