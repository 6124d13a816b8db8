/- The words in which the functions are printed, and frames at a loop's head. No condition. -/
import Derived.Test.YtdkopnbjommjdaaK8
import Derived.KernelRfl
set_option linter.all false
namespace Go.Ev
/-! ### The words of the printed functions -/
def Let {α : Type} (x : α) (K : α → Prop) : Prop := K x
/-- The address of the next new block. -/
def nb (h : Hp) : Addr := ⟨h.size, 0, none⟩
def andI (k : IntKind) (x y : Int) : Int := k.wrap ((BitVec.ofInt k.bits x &&& BitVec.ofInt k.bits y).toNat : Int)
def orI (k : IntKind) (x y : Int) : Int := k.wrap ((BitVec.ofInt k.bits x ||| BitVec.ofInt k.bits y).toNat : Int)
def xorI (k : IntKind) (x y : Int) : Int := k.wrap ((BitVec.ofInt k.bits x ^^^ BitVec.ofInt k.bits y).toNat : Int)
def andNotI (k : IntKind) (x y : Int) : Int := k.wrap ((BitVec.ofInt k.bits x &&& ~~~(BitVec.ofInt k.bits y)).toNat : Int)
def appT (e sz bys : Nat) (z : Array Value) (base : Option Addr) (n c need : Nat) (news : List Value) (h : Hp) (K : Option Addr → Nat → Nat → Hp → Prop) : Prop :=
  (need ≤ c → fromBase h base (n * sz) news fun h' => K base need c h') ∧
  (c < need → (2 * need + 768) * bys ≤ 2 ^ 48 ∧ need < 2 ^ 62 ∧ ∃ olds, ReadsO h base olds ∧ olds.length = n * sz ∧
    ∀ nc, need ≤ nc → nc < 2 ^ 63 → K (some ⟨h.size, 0, none⟩) need nc (h.push (.cells (olds.toArray ++ news.toArray ++ zrow z ((nc - need) * z.size)) e)))
def appSl (e sz bys : Nat) (z : Array Value) (base : Option Addr) (n c : Nat) (b2 : Option Addr) (m : Nat) (h : Hp) (K : Option Addr → Nat → Nat → Hp → Prop) : Prop :=
  ∃ news, ReadsO h b2 news ∧ news.length = m * sz ∧ appT e sz bys z base n c (n + m) news h K
def appStr (e bys : Nat) (z : Array Value) (base : Option Addr) (n c : Nat) (b : ByteArray) (h : Hp) (K : Option Addr → Nat → Nat → Hp → Prop) : Prop :=
  appT e 1 bys z base n c (n + b.size) (b.data.toList.map fun u => .int .u8 u.toNat) h K
def appZ (e sz bys : Nat) (z : Array Value) (base : Option Addr) (n c : Nat) (m : Int) (h : Hp) (K : Option Addr → Nat → Nat → Hp → Prop) : Prop :=
  (0 ≤ m ∧ m < 2 ^ 62) ∧ m * bys ≤ 2 ^ 48 ∧ appT e sz bys z base n c (n + m.toNat) (zrow z (m.toNat * z.size)).toList h K
def cpySl (sz : Nat) (base : Option Addr) (n : Nat) (b2 : Option Addr) (m : Nat) (h : Hp) (K : Int → Hp → Prop) : Prop :=
  ∃ news, ReadsO h b2 news ∧ news.length = min m n * sz ∧ fromBase h base 0 news fun h' => K (min m n : Nat) h'
def clrSl (z : Array Value) (base : Addr) (n : Nat) (h : Hp) (K : Hp → Prop) : Prop :=
  stsOk h base (zrow z (n * z.size)).toList 0 ∧ K (setcs h base (zrow z (n * z.size)).toList 0)

/-! ### Places in a function's code -/
def sub : List Nat → Code → Code
  | [], c => c
  | 0 :: π, .seq a _ => sub π a
  | _ :: π, .seq _ b => sub π b
  | 0 :: π, .cond _ a _ => sub π a
  | _ :: π, .cond _ _ b => sub π b
  | _ :: π, .block _ c => sub π c
  | _ :: π, .loop c => sub π c
  | _, c => c
/-- What a piece of the code goes on with. 'lk': of the loops on the way, from without. -/
def contAt (P : Program) (T : Tab) (lv : Nat → List Nat) : List Nat → Code → List (Kc → Kc) → Kc → Kc
  | [], _, _, Q => Q
  | 0 :: π, .seq a b, lk, Q => contAt P T lv π a lk (seqK (evC P T lv b Q) Q)
  | _ :: π, .seq _ b, lk, Q => contAt P T lv π b lk Q
  | 0 :: π, .cond _ a _, lk, Q => contAt P T lv π a lk Q
  | _ :: π, .cond _ _ b, lk, Q => contAt P T lv π b lk Q
  | _ :: π, .block id c, lk, Q => contAt P T lv π c lk (blockK id Q)
  | _ :: π, .loop c, k :: lk, Q => contAt P T lv π c lk (k Q)
  | _, _, _, Q => Q

/-! ### A frame at a loop's head: known slots, and others -/
def DecI (k : IntKind) (env : List Value) (s : Nat) (K : Int → Prop) : Prop := match env[s]? with | some (.int k' n) => Cond (k == k') (K n) False | _ => False
def DecB (env : List Value) (s : Nat) (K : Bool → Prop) : Prop := match env[s]? with | some (.bool b) => K b | _ => False
def DecP (env : List Value) (s : Nat) (K : Option Addr → Prop) : Prop := match env[s]? with | some (.pointer p) => K p | _ => False
def DecA (env : List Value) (s : Nat) (K : Addr → Prop) : Prop := match env[s]? with | some (.pointer (some p)) => K p | _ => False
def DecL (env : List Value) (s : Nat) (K : Sl → Prop) : Prop := match env[s]? with | some (.slice a n c) => K ⟨a, n, c⟩ | _ => False
def DecS (env : List Value) (s : Nat) (K : ByteArray → Prop) : Prop := match env[s]? with | some (.string b) => K b | _ => False
def DecM (env : List Value) (s : Nat) (K : Option Nat → Prop) : Prop := match env[s]? with | some (.map r) => K r | _ => False
def DecV (env : List Value) (s : Nat) (K : Value → Prop) : Prop := match env[s]? with | some v => K v | _ => False
def lenIs (env : List Value) (n : Nat) (K : Prop) : Prop := Cond (env.length == n) K False
theorem DecI.out {k : IntKind} {env : List Value} {s : Nat} {K : Int → Prop} (h : DecI k env s K) : ∃ n, env[s]? = some (.int k n) ∧ K n := by
  unfold DecI at h
  split at h
  · rename_i k' n he
    obtain ⟨hk, hc⟩ := Cond_true' h
    obtain rfl : k = k' := by simpa using hk
    exact ⟨n, he, hc⟩
  · exact h.elim
theorem DecB.out {env : List Value} {s : Nat} {K : Bool → Prop} (h : DecB env s K) : ∃ n, env[s]? = some (.bool n) ∧ K n := by
  unfold DecB at h; split at h
  · exact ⟨_, ‹_›, h⟩
  · exact h.elim
theorem DecP.out {env : List Value} {s : Nat} {K : Option Addr → Prop} (h : DecP env s K) : ∃ n, env[s]? = some (.pointer n) ∧ K n := by
  unfold DecP at h; split at h
  · exact ⟨_, ‹_›, h⟩
  · exact h.elim
theorem DecA.out {env : List Value} {s : Nat} {K : Addr → Prop} (h : DecA env s K) : ∃ n, env[s]? = some (.pointer (some n)) ∧ K n := by
  unfold DecA at h; split at h
  · exact ⟨_, ‹_›, h⟩
  · exact h.elim
theorem DecL.out {env : List Value} {s : Nat} {K : Sl → Prop} (h : DecL env s K) : ∃ n : Sl, env[s]? = some (.slice n.a n.n n.c) ∧ K n := by
  unfold DecL at h; split at h
  · exact ⟨⟨_, _, _⟩, ‹_›, h⟩
  · exact h.elim
theorem DecS.out {env : List Value} {s : Nat} {K : ByteArray → Prop} (h : DecS env s K) : ∃ n, env[s]? = some (.string n) ∧ K n := by
  unfold DecS at h; split at h
  · exact ⟨_, ‹_›, h⟩
  · exact h.elim
theorem DecM.out {env : List Value} {s : Nat} {K : Option Nat → Prop} (h : DecM env s K) : ∃ n, env[s]? = some (.map n) ∧ K n := by
  unfold DecM at h; split at h
  · exact ⟨_, ‹_›, h⟩
  · exact h.elim
theorem DecV.out {env : List Value} {s : Nat} {K : Value → Prop} (h : DecV env s K) : ∃ n, env[s]? = some n ∧ K n := by
  unfold DecV at h; split at h
  · exact ⟨_, ‹_›, h⟩
  · exact h.elim
theorem callable_of {P : Program} {f : FuncId} {fn : Func} (hf : P.funcs[f]? = some fn) (hn : (fn.name == "runtime.NumGoroutine") = false) (hb : fn.body.isSome = true) : Callable P f := by
  intro args w
  unfold callFunc
  simp only [run_bind, run_program, hf, hn, Bool.false_eq_true, if_false]
  have hb' : fn.body.isNone = false := by cases h : fn.body <;> simp_all
  simp only [hb', Bool.false_eq_true, if_false, run_pure]
end Go.Ev
