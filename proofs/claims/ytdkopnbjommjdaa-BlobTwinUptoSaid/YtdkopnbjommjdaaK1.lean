/- An evaluator of the model's memory operations on the heap alone, and its soundness. No theorem about the program; no condition. -/
import Derived.Calls
set_option linter.all false
namespace Go.Ev

abbrev Hp := Array Obj
def cell (h : Hp) (a : Addr) : Option Value :=
  match h[a.block]? with
  | some (.cells c _ _) => if a.spot.isSome then none else c[a.off]?
  | _ => none
def frz (h : Hp) (a : Addr) : Bool :=
  match h[a.block]? with
  | some (.cells _ _ (lo, hi)) => lo ≤ a.off && a.off < hi
  | _ => false
def shp (h : Hp) (r : Nat) : Option (TypeId × Nat) :=
  match h[r]? with
  | some (.cells c elem _) => some (elem, c.size)
  | _ => none
def setc (h : Hp) (a : Addr) (v : Value) : Hp :=
  h.modify a.block fun
    | .cells c elem frozen => .cells (if a.spot.isSome then c else c.setIfInBounds a.off v) elem frozen
    | o => o
def stOk (h : Hp) (a : Addr) : Prop := (∃ u, cell h a = some u) ∧ frz h a = false
def notCells : Obj → Bool
  | .cells .. => false
  | _ => true

/-- Same streams, tape and outside. -/
def Same (w w' : World) : Prop := w'.os = w.os ∧ w'.tape = w.tape ∧ w'.output = w.output
theorem Same.refl (w : World) : Same w w := ⟨rfl, rfl, rfl⟩
theorem Same.trans {a b c : World} (h : Same a b) (k : Same b c) : Same a c := ⟨k.1.trans h.1, k.2.1.trans h.2.1, k.2.2.trans h.2.2⟩

structure Sl where
  a : Option Addr
  n : Nat
  c : Nat

inductive VK where
  | int (k : IntKind)
  | bool
  | str
  | ptr
  | sl
  | mp
  | any

def VK.ex : VK → (Value → Prop) → Prop
  | .int k, φ => ∃ n : Int, φ (.int k n)
  | .bool, φ => ∃ b : Bool, φ (.bool b)
  | .str, φ => ∃ s : ByteArray, φ (.string s)
  | .ptr, φ => ∃ p : Option Addr, φ (.pointer p)
  | .sl, φ => ∃ s : Sl, φ (.slice s.a s.n s.c)
  | .mp, φ => ∃ r : Option Nat, φ (.map r)
  | .any, φ => ∃ v : Value, φ v
theorem VK.ex_some {k : VK} {φ : Value → Prop} (h : k.ex φ) : ∃ v, φ v := by
  cases k <;> (obtain ⟨x, hx⟩ := h; exact ⟨_, hx⟩)

def Cond (t : Bool) (A B : Prop) : Prop := match t with | true => A | false => B
def PtrOk (p : Option Addr) (K : Addr → Prop) : Prop := match p with | some a => K a | none => False
def isCell : Value → Bool
  | .agg _ => false
  | .tuple _ => false
  | _ => true

/-- What a piece of the model's own operations comes to, on the heap alone. 'vs': the kinds that the next loads are taken at. -/
def evSem {α : Type} (P : Program) : Sem α → List VK → Hp → (α → List VK → Hp → Prop) → Prop
  | .pure a, vs, h, K => K a vs h
  | .load _ a k, vs, h, K => (vs.headD .any).ex fun v => cell h a = some v ∧ evSem P (k v) vs.tail h K
  | .store _ a v k, vs, h, K => Cond (isCell v) (stOk h a ∧ evSem P k vs (setc h a v) K) False
  | .new o k, vs, h, K => evSem P (k h.size) vs (h.push o) K
  | .shape r k, vs, h, K => evSem P (k (shp h r)) vs h K
  | .freeze _ _ _, _, _, _ => False
  | .frozen a k, vs, h, K => evSem P (k (frz h a)) vs h K
  | .getObj r k, vs, h, K => ∃ o, h[r]? = some o ∧ notCells o = true ∧ evSem P (k o) vs h K
  | .setObj r o k, vs, h, K => (∃ u, h[r]? = some u ∧ notCells u = true) ∧ evSem P k vs (h.setIfInBounds r o) K
  | .choose q k, vs, h, K => if q.forced then evSem P (k 0) vs h K else ∀ t, evSem P (k (q.cut t)) vs h K
  | .sys _ _, _, _, _ => False
  | .program k, vs, h, K => evSem P (k P) vs h K
  | .mark _ k, vs, h, K => evSem P k vs h K
  | .halt _, _, _, _ => False

theorem evSem_sound {α : Type} {P : Program} : ∀ (s : Sem α) (vs : List VK) (w : World) (K : α → List VK → Hp → Prop), evSem P s vs w.heap K →
    ∃ a vs' w', s.run P w = .ok a w' ∧ Same w w' ∧ K a vs' w'.heap := by
  intro s
  induction s with
  | pure a => exact fun vs w K h => ⟨a, vs, w, rfl, Same.refl _, h⟩
  | load m a k ih =>
    intro vs w K h
    obtain ⟨v, hv, h⟩ := VK.ex_some h
    have hv' : w.cell? a = some v := hv
    obtain ⟨x, vs', w', hr, hs, hk⟩ := ih v _ _ _ h
    exact ⟨x, vs', w', by rw [Sem.run, hv']; exact hr, hs, hk⟩
  | store m a v k ih =>
    intro vs w K h
    simp only [evSem] at h
    cases hc : isCell v with
    | false => rw [hc] at h; exact h.elim
    | true =>
      rw [hc] at h
      obtain ⟨⟨⟨u, hu⟩, hf⟩, h⟩ := h
      have hu' : w.cell? a = some u := hu
      have hf' : w.frozen? a = false := hf
      have hset : (w.setCell a v).heap = setc w.heap a v := rfl
      rw [← hset] at h
      obtain ⟨x, vs', w', hr, hs, hk⟩ := ih _ _ _ h
      refine ⟨x, vs', w', ?_, hs, hk⟩
      rw [← hr]
      cases v <;> first | (simp [isCell] at hc; done) | simp [Sem.run, hu', hf']
  | new o k ih =>
    intro vs w K h
    obtain ⟨x, vs', w', hr, hs, hk⟩ := ih w.heap.size vs { w with heap := w.heap.push o } K h
    exact ⟨x, vs', w', by rw [Sem.run]; exact hr, ⟨hs.1, hs.2.1, hs.2.2⟩, hk⟩
  | shape r k ih =>
    intro vs w K h
    obtain ⟨x, vs', w', hr, hs, hk⟩ := ih (shp w.heap r) vs w K h
    exact ⟨x, vs', w', by rw [Sem.run]; exact hr, hs, hk⟩
  | freeze => exact fun vs w K h => h.elim
  | frozen a k ih =>
    intro vs w K h
    obtain ⟨x, vs', w', hr, hs, hk⟩ := ih (frz w.heap a) vs w K h
    exact ⟨x, vs', w', by rw [Sem.run]; exact hr, hs, hk⟩
  | getObj r k ih =>
    intro vs w K h
    obtain ⟨o, ho, hn, h⟩ := h
    obtain ⟨x, vs', w', hr, hs, hk⟩ := ih o vs w K h
    refine ⟨x, vs', w', ?_, hs, hk⟩
    rw [← hr, Sem.run, ho]
    cases o <;> first | (simp [notCells] at hn; done) | rfl
  | setObj r o k ih =>
    intro vs w K h
    obtain ⟨⟨u, hu, hn⟩, h⟩ := h
    obtain ⟨x, vs', w', hr, hs, hk⟩ := ih vs { w with heap := w.heap.setIfInBounds r o } K h
    refine ⟨x, vs', w', ?_, ⟨hs.1, hs.2.1, hs.2.2⟩, hk⟩
    rw [← hr, Sem.run, hu]
    cases u <;> first | (simp [notCells] at hn; done) | rfl
  | choose q k ih =>
    intro vs w K h
    simp only [evSem] at h
    by_cases hq : q.forced = true
    · rw [if_pos hq] at h
      obtain ⟨x, vs', w', hr, hs, hk⟩ := ih 0 vs w K h
      exact ⟨x, vs', w', by rw [Sem.run, if_pos hq]; exact hr, hs, hk⟩
    · rw [if_neg hq] at h
      obtain ⟨x, vs', w', hr, hs, hk⟩ := ih _ vs { w with drawn := w.drawn + 1 } K (h (w.tape w.drawn q))
      exact ⟨x, vs', w', by rw [Sem.run, if_neg hq]; exact hr, ⟨hs.1, hs.2.1, hs.2.2⟩, hk⟩
  | sys => exact fun vs w K h => h.elim
  | program k ih =>
    intro vs w K h
    obtain ⟨x, vs', w', hr, hs, hk⟩ := ih P vs w K h
    exact ⟨x, vs', w', by rw [Sem.run]; exact hr, hs, hk⟩
  | mark m k ih =>
    intro vs w K h
    obtain ⟨x, vs', w', hr, hs, hk⟩ := ih vs w K h
    exact ⟨x, vs', w', by rw [Sem.run]; exact hr, hs, hk⟩
  | halt => exact fun vs w K h => h.elim

/-- What may be said of a call, on the heap alone. -/
def CallTo (P : Program) (f : FuncId) (args : Array Value) (h : Hp) (R : Value → Hp → Prop) : Prop :=
  ∀ w : World, w.heap = h → Calls P f args w fun e w' => ∃ v, e = .returned v ∧ Same w w' ∧ R v w'.heap
theorem CallTo.mono {P : Program} {f : FuncId} {args : Array Value} {h : Hp} {R R' : Value → Hp → Prop} (c : CallTo P f args h R)
    (hr : ∀ v h', R v h' → R' v h') : CallTo P f args h R' :=
  fun w hw => (c w hw).mono fun _ _ ⟨v, he, hs, hR⟩ => ⟨v, he, hs, hr _ _ hR⟩
end Go.Ev
