/- The evaluator's pure operations. No condition. -/
import Derived.Test.YtdkopnbjommjdaaK1
set_option linter.all false
namespace Go.Ev

/-! ### Operands -/
def evalL (env : List Value) : Operand → Value
  | .tmp t => env.getD t undef
  | .const v => v
  | .global g => .pointer (some ⟨g, 0, none⟩)
  | .func f => .func (.func f) #[] #[]
def actL (env : List Value) (D : List Deferred) : Act := ⟨env.toArray, D⟩
theorem eval_actL (env : List Value) (D : List Deferred) : (actL env D).eval = evalL env := by
  funext x
  cases x <;> simp [Act.eval, evalL, actL]
def putL (env : List Value) (dst : Option Tmp) (v : Value) : List Value := match dst with | some d => env.set d v | none => env
theorem put_actL (env : List Value) (D : List Deferred) (dst : Option Tmp) (v : Value) : (actL env D).put dst v = actL (putL env dst v) D := by
  cases dst <;> simp [Act.put, actL, putL]

/-! ### Operations that look at no memory -/
def pureVal {α : Type} (P : Program) : Sem α → Option α
  | .pure a => some a
  | .program k => pureVal P (k P)
  | _ => none
theorem pureVal_sound {α : Type} {P : Program} : ∀ (s : Sem α) (a : α), pureVal P s = some a → ∀ w, s.run P w = .ok a w := by
  intro s
  induction s with
  | pure b => intro a h w; simp only [pureVal, Option.some.injEq] at h; rw [h]; rfl
  | program k ih => intro a h w; rw [Sem.run]; exact ih P a h w
  | _ => intros; simp [pureVal] at *
def ofPure (P : Program) (s : Sem Next) (K : Value → Prop) : Prop :=
  match pureVal P s with
  | some (.value v) => K v
  | _ => False
def szOf (P : Program) (t : TypeId) : Nat := match P.info? t with | some i => i.size | none => 0
def byOf (P : Program) (t : TypeId) : Nat := match P.info? t with | some i => i.bytes | none => 0

def idxAt (P : Program) (t : TypeId) (x i : Value) (K : Value → Prop) : Prop :=
  match P.underlying t, x, i with
  | some (.slice e), .slice a n _, .int _ j => (0 ≤ j ∧ j < n) ∧ Cond (P.info? e).isSome (PtrOk a fun b => K (.pointer (some (b.add (j.toNat * szOf P e))))) False
  | some (.array len e), .pointer a, .int _ j => (0 ≤ j ∧ j < len) ∧ Cond (P.info? e).isSome (PtrOk a fun b => K (.pointer (some (b.add (j.toNat * szOf P e))))) False
  | _, _, _ => False
def intOf? : Option Value → Option (Option Int)
  | none => some none
  | some (.int _ n) => some (some n)
  | _ => none
def sliceEv (P : Program) (t : TypeId) (x : Value) (lo hi mx : Option Value) (K : Value → Prop) : Prop :=
  match P.underlying t, x, intOf? lo, intOf? hi, intOf? mx with
  | some (.slice e), .slice a n c, some lo, some none, some none =>
    (0 ≤ lo.getD 0 ∧ lo.getD 0 ≤ n) ∧ Cond (P.info? e).isSome (
      K (.slice (if c = (lo.getD 0).toNat then a else a.map (·.add ((lo.getD 0).toNat * szOf P e))) (n - (lo.getD 0).toNat) (c - (lo.getD 0).toNat))) False
  | some (.slice e), .slice a _ c, some lo, some (some hi), some none =>
    (0 ≤ hi ∧ hi ≤ c) ∧ (0 ≤ lo.getD 0 ∧ lo.getD 0 ≤ hi) ∧ Cond (P.info? e).isSome (
      K (.slice (if c = (lo.getD 0).toNat then a else a.map (·.add ((lo.getD 0).toNat * szOf P e))) (hi.toNat - (lo.getD 0).toNat) (c - (lo.getD 0).toNat))) False
  | some (.slice e), .slice a _ c, some lo, some (some hi), some (some mx) =>
    (0 ≤ mx ∧ mx ≤ c) ∧ (0 ≤ hi ∧ hi ≤ mx) ∧ (0 ≤ lo.getD 0 ∧ lo.getD 0 ≤ hi) ∧ Cond (P.info? e).isSome (
      K (.slice (if mx.toNat = (lo.getD 0).toNat then a else a.map (·.add ((lo.getD 0).toNat * szOf P e))) (hi.toNat - (lo.getD 0).toNat) (mx.toNat - (lo.getD 0).toNat))) False
  | some .string, .string s, some lo, some none, some none =>
    (0 ≤ lo.getD 0 ∧ lo.getD 0 ≤ s.size) ∧ K (.string (s.extract (lo.getD 0).toNat s.size))
  | some .string, .string s, some lo, some (some hi), some none =>
    (0 ≤ hi ∧ hi ≤ s.size) ∧ (0 ≤ lo.getD 0 ∧ lo.getD 0 ≤ hi) ∧ K (.string (s.extract (lo.getD 0).toNat hi.toNat))
  | _, _, _, _, _ => False
def strAt (P : Program) (t : TypeId) (x i : Value) (K : Value → Prop) : Prop :=
  match P.underlying t, x, i with
  | some .string, .string s, .int _ j => (0 ≤ j ∧ j < s.size) ∧ K (.int .u8 (s[j.toNat]?.getD 0).toNat)
  | _, _, _ => False
/-- So many cells of an array value, from a place. -/
def pickL (cs : Array Value) (i : Nat) : Nat → Nat → (List Value → Prop) → Prop
  | 0, _, φ => φ []
  | n + 1, j, φ => ∃ v, cs[i + j]? = some v ∧ pickL cs i n (j + 1) fun vs => φ (v :: vs)
def partEv (P : Program) (e : TypeId) (cs : Array Value) (i : Nat) (K : Value → Prop) : Prop :=
  match P.underlying e with
  | some (.struct _) => Cond (P.info? e).isSome (pickL cs i (szOf P e) 0 fun vs => K (.agg vs.toArray)) False
  | some (.array _ _) => False
  | some _ => ∃ v, cs[i]? = some v ∧ K v
  | none => False
def arrAt (P : Program) (len : Nat) (e : TypeId) (x i : Value) (K : Value → Prop) : Prop :=
  match i with
  | .int _ j => (0 ≤ j ∧ j < len) ∧ Cond (P.info? e).isSome (∃ cs : Array Value, x = .agg cs ∧ partEv P e cs (j.toNat * szOf P e) K) False
  | _ => False
def strAdd (op : BinOp) (x y : Value) (K : Value → Prop) (other : Prop) : Prop :=
  match op, x, y with
  | .add, .string a, .string b => a.size + b.size < 2 ^ 62 ∧ K (.string (a ++ b))
  | _, _, _ => other
def divEv (op : BinOp) (x y : Value) (K : Value → Prop) : Prop :=
  match op, x, y with
  | .quo, .int k a, .int _ b => b ≠ 0 ∧ K (.int k (k.wrap (a.tdiv b)))
  | .rem, .int k a, .int _ b => b ≠ 0 ∧ K (.int k (a.tmod b))
  | .shl, .int k a, .int _ b => 0 ≤ b ∧ K (.int k (k.wrap (a * 2 ^ (min b.toNat k.bits))))
  | .shr, .int k a, .int _ b => 0 ≤ b ∧ K (.int k (a.fdiv (2 ^ (min b.toNat k.bits))))
  | _, _, _ => False
/-- '== nil' (and its like): the other side may be a variable. -/
def nilEq (P : Program) (t : TypeId) (x y : Value) : Option Bool :=
  match P.underlying t, x, y with
  | some (.pointer _), .pointer p, .pointer none => some p.isNone
  | some (.pointer _), .pointer none, .pointer q => some q.isNone
  | some (.slice _), .slice a _ _, .slice none _ _ => some a.isNone
  | some (.slice _), .slice none _ _, .slice b _ _ => some b.isNone
  | some (.map _ _), .map r, .map none => some r.isNone
  | some (.map _ _), .map none, .map r => some r.isNone
  | _, _, _ => none
def aggTy (P : Program) (t : TypeId) : Option Bool := match P.underlying t with | some (.struct _) => some true | some (.array _ _) => some true | some _ => some false | none => none
def partV (P : Program) (t : TypeId) (cs : Array Value) (off : Nat) : Option Value :=
  match aggTy P t with
  | some true => match P.info? t with | some i => some (.agg (cs.extract off (off + i.size))) | none => none
  | some false => cs[off]?
  | none => none
def andO : Option Bool → Option Bool → Option Bool
  | some a, some b => some (a && b)
  | _, _ => none
def eqFs (P : Program) (eq : TypeId → Value → Value → Option Bool) (xs ys : Array Value) : List Field → Option Bool
  | [] => some true
  | f :: fs =>
    match f.name == "_" with
    | true => eqFs P eq xs ys fs
    | false =>
      match partV P f.type xs f.offset, partV P f.type ys f.offset with
      | some u, some v => andO (eq f.type u v) (eqFs P eq xs ys fs)
      | _, _ => none
/-- Equality of values of plain types: integers, bools, strings, structs of such. -/
def eqTy (P : Program) : Nat → TypeId → Value → Value → Option Bool
  | 0, _, _, _ => none
  | d + 1, t, x, y =>
    match P.underlying t, x, y with
    | some .bool, .bool a, .bool b => some (a == b)
    | some (.int _), .int k a, .int k' b => match k == k' with | true => some (a == b) | false => none
    | some .string, .string a, .string b => some (a == b)
    | some (.struct fs), .agg xs, .agg ys => match P.stoodInHeld t with | true => none | false => eqFs P (eqTy P d) xs ys fs.toList
    | _, _, _ => none
def sameKind : Value → Value → Bool
  | .int k _, .int k' _ => k == k'
  | _, _ => false
def eqAgg (P : Program) (t : TypeId) (x y : Value) (K : Bool → Prop) (other : Prop) : Prop :=
  match x, y with
  | .agg xs, .agg ys =>
    match Program.eqGuardType P P.depth t with
    | true => False
    | false => match eqTy P 20 t (.agg xs) (.agg ys) with | some b => K b | none => False
  | _, _ => other
/-- The op yields the value in every world. -/
def evPure (P : Program) (o : Oper) (env : List Value) (K : Value → Prop) : Prop :=
  match o.op with
  | .nilCheck x =>
    match evalL env x with
    | .pointer p => PtrOk p fun a => K (.pointer (some a))
    | _ => ofPure P (execOp (evalL env) o) K
  | .indexAddr t x i => idxAt P t (evalL env x) (evalL env i) K
  | .index t x i => match P.underlying t with
    | some .string => strAt P t (evalL env x) (evalL env i) K
    | some (.array len e) => arrAt P len e (evalL env x) (evalL env i) K
    | _ => ofPure P (execOp (evalL env) o) K
  | .slice t x lo hi mx => sliceEv P t (evalL env x) (lo.map (evalL env)) (hi.map (evalL env)) (mx.map (evalL env)) K
  | .binOp op t x y _ =>
    match op with
    | .quo => Cond (sameKind (evalL env x) (evalL env y)) (divEv .quo (evalL env x) (evalL env y) K) False
    | .rem => Cond (sameKind (evalL env x) (evalL env y)) (divEv .rem (evalL env x) (evalL env y) K) False
    | .shl => divEv .shl (evalL env x) (evalL env y) K
    | .shr => divEv .shr (evalL env x) (evalL env y) K
    | .eql => match nilEq P t (evalL env x) (evalL env y) with
      | some b => K (.bool b)
      | none => eqAgg P t (evalL env x) (evalL env y) (fun b => K (.bool b)) (ofPure P (execOp (evalL env) o) K)
    | .neq => match nilEq P t (evalL env x) (evalL env y) with
      | some b => K (.bool (!b))
      | none => eqAgg P t (evalL env x) (evalL env y) (fun b => K (.bool (!b))) (ofPure P (execOp (evalL env) o) K)
    | _ => strAdd op (evalL env x) (evalL env y) K (ofPure P (execOp (evalL env) o) K)
  | _ => ofPure P (execOp (evalL env) o) K

def YieldsAll (P : Program) (o : Oper) (env : List Value) (v : Value) : Prop := ∀ w, (execOp (evalL env) o).run P w = .ok (.value v) w

theorem ofPure_sound {P : Program} {s : Sem Next} {K : Value → Prop} (h : ofPure P s K) : ∃ v, (∀ w, s.run P w = .ok (.value v) w) ∧ K v := by
  unfold ofPure at h
  split at h
  · rename_i v hv; exact ⟨v, pureVal_sound _ _ hv, h⟩
  · exact h.elim
theorem PtrOk.some' {p : Option Addr} {K : Addr → Prop} (h : PtrOk p K) : ∃ a, p = some a ∧ K a := by
  cases p with
  | none => exact h.elim
  | some a => exact ⟨a, rfl, h⟩
theorem run_bind {α β : Type} (P : Program) (s : Sem α) (f : α → Sem β) (w : World) :
    (s >>= f).run P w = match s.run P w with | .ok a w' => (f a).run P w' | .halt x w' => .halt x w' := by
  show (s.bind f).run P w = _
  induction s generalizing w with
  | pure a => rfl
  | load m a k ih =>
    simp only [Sem.bind, Sem.run]
    cases w.cell? a with
    | some v => exact ih v w
    | none =>
      cases w.farLoad P a (m == .atomic) with
      | ok r => exact ih r.1 w
      | error e => rfl
  | store m a v k ih =>
    cases v <;> simp only [Sem.bind, Sem.run] <;>
      (cases w.cell? a with
       | some u =>
         simp only []
         split
         · rfl
         · exact ih _
       | none =>
         simp only []
         cases w.farStore P a _ (m == .atomic) with
         | ok r => exact ih r.1
         | error e => rfl)
  | new o k ih => simp only [Sem.bind, Sem.run]; exact ih _ _
  | shape r k ih => simp only [Sem.bind, Sem.run]; exact ih _ _
  | freeze a n k ih => simp only [Sem.bind, Sem.run]; exact ih _
  | frozen a k ih => simp only [Sem.bind, Sem.run]; exact ih _ _
  | getObj r k ih =>
    simp only [Sem.bind, Sem.run]
    cases w.heap[r]? with
    | none => rfl
    | some o => cases o <;> first | rfl | exact ih _ w
  | setObj r o k ih =>
    simp only [Sem.bind, Sem.run]
    cases w.heap[r]? with
    | none => rfl
    | some u => cases u <;> first | rfl | exact ih _
  | choose q k ih =>
    simp only [Sem.bind, Sem.run]
    split
    · exact ih _ _
    · exact ih _ _
  | sys c k ih => simp only [Sem.bind, Sem.run]; exact ih _ _
  | program k ih => simp only [Sem.bind, Sem.run]; exact ih _ _
  | mark m k ih => simp only [Sem.bind, Sem.run]; exact ih _
  | halt h => rfl
end Go.Ev
