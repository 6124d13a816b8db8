/- Reading, rows of cells, make, append and copy, each with its soundness. No condition. -/
import Derived.Test.YtdkopnbjommjdaaK3
set_option linter.all false
namespace Go.Ev

/-! ### Reading -/
def rdSem {α : Type} (P : Program) : Sem α → List VK → Hp → (α → List VK → Prop) → Prop
  | .pure a, vs, _, K => K a vs
  | .load _ a k, vs, h, K => (vs.headD .any).ex fun v => cell h a = some v ∧ rdSem P (k v) vs.tail h K
  | .shape r k, vs, h, K => rdSem P (k (shp h r)) vs h K
  | .getObj r k, vs, h, K => ∃ o, h[r]? = some o ∧ notCells o = true ∧ rdSem P (k o) vs h K
  | .program k, vs, h, K => rdSem P (k P) vs h K
  | _, _, _, _ => False
theorem rdSem_sound {α : Type} {P : Program} : ∀ (s : Sem α) (vs : List VK) (w : World) (K : α → List VK → Prop), rdSem P s vs w.heap K →
    ∃ a vs', s.run P w = .ok a w ∧ K a vs' := by
  intro s
  induction s with
  | pure a => exact fun vs w K h => ⟨a, vs, rfl, h⟩
  | load m a k ih =>
    intro vs w K h
    obtain ⟨v, hv, h⟩ := VK.ex_some h
    have hv' : w.cell? a = some v := hv
    obtain ⟨x, vs', hr, hk⟩ := ih v _ _ _ h
    exact ⟨x, vs', by rw [Sem.run, hv']; exact hr, hk⟩
  | shape r k ih =>
    intro vs w K h
    obtain ⟨x, vs', hr, hk⟩ := ih (shp w.heap r) vs w K h
    exact ⟨x, vs', by rw [Sem.run]; exact hr, hk⟩
  | getObj r k ih =>
    intro vs w K h
    obtain ⟨o, ho, hn, h⟩ := h
    obtain ⟨x, vs', hr, hk⟩ := ih o vs w K h
    refine ⟨x, vs', ?_, hk⟩
    rw [← hr, Sem.run, ho]
    cases o <;> first | (simp [notCells] at hn; done) | rfl
  | program k ih =>
    intro vs w K h
    obtain ⟨x, vs', hr, hk⟩ := ih P vs w K h
    exact ⟨x, vs', by rw [Sem.run]; exact hr, hk⟩
  | _ => exact fun vs w K h => h.elim

/-! ### Rows of cells -/
def Reads (h : Hp) (a : Addr) (l : List Value) : Prop := ∀ j v, l[j]? = some v → cell h (a.add j) = some v
def ReadsO (h : Hp) : Option Addr → List Value → Prop
  | some a, l => Reads h a l
  | none, l => l = []
def setcs (h : Hp) (a : Addr) : List Value → Nat → Hp
  | [], _ => h
  | v :: r, i => setcs (setc h (a.add i) v) a r (i + 1)
def stsOk (h : Hp) (a : Addr) : List Value → Nat → Prop
  | [], _ => True
  | v :: r, i => isCell v = true ∧ stOk h (a.add i) ∧ stsOk (setc h (a.add i) v) a r (i + 1)
def zrow (z : Array Value) (n : Nat) : Array Value := (Array.range n).map (z[· % z.size]!)

section
variable {P : Program}
theorem run_load {a : Addr} {v : Value} {w : World} (h : cell w.heap a = some v) : (Go.load a).run P w = .ok v w := by
  have h' : w.cell? a = some v := h
  unfold Go.load
  rw [Sem.run, h']
  rfl
theorem run_loadCellsFrom (a : Addr) : ∀ (l : List Value) (i : Nat) (acc : Array Value) (w : World), (∀ j v, l[j]? = some v → cell w.heap (a.add (i + j)) = some v) →
    (loadCellsFrom a i l.length acc).run P w = .ok (acc ++ l.toArray) w := by
  intro l
  induction l with
  | nil => intro i acc w _; simp [loadCellsFrom, run_pure]
  | cons x l ih =>
    intro i acc w h
    simp only [List.length_cons, loadCellsFrom, run_bind]
    have h0 : cell w.heap (a.add i) = some x := h 0 x rfl
    rw [run_load h0]
    simp only []
    rw [ih (i + 1) (acc.push x) w (fun j v hj => by have := h (j + 1) v (by simpa using hj); rwa [show i + (j + 1) = i + 1 + j by omega] at this)]
    simp
theorem run_loadCells {a : Addr} {l : List Value} {n : Nat} {w : World} (h : Reads w.heap a l) (hn : l.length = n) : (loadCells a n).run P w = .ok l.toArray w := by
  unfold loadCells
  rw [← hn, run_loadCellsFrom a l 0 #[] w (fun j v hj => by rw [Nat.zero_add]; exact h j v hj)]
  simp
theorem run_store {a : Addr} {v : Value} {w : World} (hc : isCell v = true) (h : stOk w.heap a) : (Go.store a v).run P w = .ok () (w.setCell a v) := by
  obtain ⟨⟨u, hu⟩, hf⟩ := h
  have hu' : w.cell? a = some u := hu
  have hf' : w.frozen? a = false := hf
  unfold Go.store
  cases v <;> first | (simp [isCell] at hc; done) | simp [Sem.run, hu', hf']
theorem run_storeCells (a : Addr) : ∀ (l : List Value) (i : Nat) (w : World), stsOk w.heap a l i →
    ∃ w', (storeCells a l i).run P w = .ok () w' ∧ Same w w' ∧ w'.heap = setcs w.heap a l i := by
  intro l
  induction l with
  | nil => intro i w _; exact ⟨w, rfl, Same.refl _, rfl⟩
  | cons x l ih =>
    intro i w h
    obtain ⟨h1, h2, h3⟩ := h
    have hset : (w.setCell (a.add i) x).heap = setc w.heap (a.add i) x := rfl
    rw [← hset] at h3
    obtain ⟨w', hr, hs, hh⟩ := ih (i + 1) _ h3
    refine ⟨w', ?_, hs, hh⟩
    rw [storeCells, run_bind, run_store h1 h2]
    exact hr
theorem run_firstCells_sl {b : Option Addr} {m c sz n : Nat} {l : List Value} {w : World} (h : ReadsO w.heap b l) (hn : l.length = n * sz) :
    (Builtin.firstCells sz n (.slice b m c)).run P w = .ok l.toArray w := by
  cases b with
  | none => have : l = [] := h; subst this; rfl
  | some a => exact run_loadCells h hn
theorem run_zeroValue {t : TypeId} {i : TypeInfo} {v : Value} (h : P.info? t = some i) (hz : i.zero = some v) (w : World) : (Go.zeroValue t).run P w = .ok v w := by
  unfold Go.zeroValue
  rw [run_bind, run_typeInfo h]
  simp only [hz]
  rfl
theorem run_newRow (e : TypeId) (cs : Array Value) (w : World) : (Go.newRow e cs).run P w = .ok ⟨w.heap.size, 0, none⟩ { w with heap := w.heap.push (.cells cs e) } := by
  unfold Go.newRow
  rw [run_bind]
  unfold Go.newObj
  rw [Sem.run]
  rfl
theorem run_askRoom (n : Nat) (w : World) : (Go.askRoom n).run P w = .ok () w := by
  unfold Go.askRoom
  split
  · unfold Go.mark; rw [Sem.run]; rfl
  · rfl
end

/-! ### make -/
def zeroOf (P : Program) (e : TypeId) : Option (Array Value) := match P.info? e with | some i => (match i.zero with | some v => some v.cells | none => none) | none => none
def makeEv (P : Program) (t : TypeId) (len cap : Value) (h : Hp) (K : Value → Hp → Prop) : Prop :=
  match P.underlying t, len, cap with
  | some (.slice e), .int _ l, .int _ c =>
    match zeroOf P e with
    | some z => (0 ≤ l ∧ l ≤ c) ∧ c < 2 ^ 62 ∧ byOf P e * c ≤ 2 ^ 48 ∧
        K (.slice (some ⟨h.size, 0, none⟩) l.toNat c.toNat) (h.push (.cells (zrow z (c.toNat * szOf P e)) e))
    | none => False
  | _, _, _ => False
section
variable {P : Program}
theorem wrap_i64 {x : Int} (h0 : 0 ≤ x) (h1 : x < 2 ^ 62) : IntKind.i64.wrap x = x := by
  have h1' : x < 4611686018427387904 := h1
  have e : x % 2 ^ 64 = x := by omega
  simp only [IntKind.wrap, IntKind.signed, IntKind.bits, e]
  rw [if_neg]
  simp
  omega
theorem makeEv_sound {t : TypeId} {len cap : Value} {w : World} {K : Value → Hp → Prop} (h : makeEv P t len cap w.heap K) :
    ∃ v w', (Instr.makeSlice t len cap).run P w = .ok v w' ∧ Same w w' ∧ K v w'.heap := by
  unfold makeEv at h
  split at h
  · rename_i e k l k' c ht
    split at h
    · rename_i z hz
      obtain ⟨⟨h0, h1⟩, h2, h3, hk⟩ := h
      unfold zeroOf at hz
      split at hz
      · rename_i i hi
        split at hz
        · rename_i v hv
          obtain rfl : v.cells = z := by simpa using hz
          have hby : byOf P e = i.bytes := by unfold byOf; rw [hi]
          have hsz : szOf P e = i.size := by unfold szOf; rw [hi]
          have hs : (P.info? e).isSome = true := by rw [hi]; rfl
          refine ⟨_, { w with heap := w.heap.push (.cells (zrow v.cells (c.toNat * szOf P e)) e) }, ?_, ?_, hk⟩
          · unfold Instr.makeSlice
            rw [run_bind, run_underlying ht]
            simp only [run_bind, asInt, asIntOf, run_pure, run_typeInfo hi]
            rw [wrap_i64 h0 (by omega), wrap_i64 (by omega) h2]
            have h3' : (i.bytes : Int) * c ≤ 2 ^ 48 := by rw [← hby]; exact h3
            have ht1 : ¬ ((decide (c < 0) || decide (2 ^ 48 < (i.bytes : Int) * c)) || decide (l < 0) || decide (c < l)) = true := by
              simp only [Bool.or_eq_true, decide_eq_true_eq, not_or]
              omega
            simp only [gt_iff_lt]
            rw [if_neg ht1]
            simp only [run_bind, run_askRoom, run_sizeOf hs, hsz]
            by_cases hn : c.toNat * i.size = 0
            · simp only [hn, if_true, zrow]
              rw [run_bind, run_pure]
              simp only [run_bind, run_newRow, run_pure]
              simp [Array.range]
            · simp only [hn, if_false, run_bind, run_zeroValue hi hv, run_pure, run_newRow, zrow]
          · exact ⟨rfl, rfl, rfl⟩
        · cases hz
      · cases hz
    · exact h.elim
  · exact h.elim
end

/-! ### append, copy -/
def fromBase (h : Hp) (base : Option Addr) (off : Nat) (news : List Value) (K : Hp → Prop) : Prop :=
  match base with
  | some a => stsOk h (a.add off) news 0 ∧ K (setcs h (a.add off) news 0)
  | none => K h
def appTail (P : Program) (e : TypeId) (z : Array Value) (base : Option Addr) (n c need : Nat) (news : List Value) (h : Hp) (K : Value → Hp → Prop) : Prop :=
  (need ≤ c → fromBase h base (n * szOf P e) news fun h' => K (.slice base need c) h') ∧
  (c < need → (2 * need + 768) * byOf P e ≤ 2 ^ 48 ∧ need < 2 ^ 62 ∧ ∃ olds, ReadsO h base olds ∧ olds.length = n * szOf P e ∧
    ∀ nc, need ≤ nc → nc < 2 ^ 63 → K (.slice (some ⟨h.size, 0, none⟩) need nc) (h.push (.cells (olds.toArray ++ news.toArray ++ zrow z ((nc - need) * z.size)) e)))
def isIntTy (P : Program) (t : TypeId) : Bool := match P.underlying t with | some (.int _) => true | _ => false
def appendEv (P : Program) (st xt : TypeId) (s x : Value) (h : Hp) (K : Value → Hp → Prop) : Prop :=
  match P.underlying st, s, x with
  | some (.slice e), .slice base n c, .slice b2 m _ =>
    match zeroOf P e with
    | some z => Cond ((P.underlying xt).isSome && !isIntTy P xt) (∃ news, ReadsO h b2 news ∧ news.length = m * szOf P e ∧ appTail P e z base n c (n + m) news h K) False
    | none => False
  | some (.slice e), .slice base n c, .string b =>
    match zeroOf P e with
    | some z => Cond ((P.underlying xt).isSome && !isIntTy P xt && szOf P e == 1) (appTail P e z base n c (n + b.size) (b.data.toList.map fun u => .int .u8 u.toNat) h K) False
    | none => False
  | some (.slice e), .slice base n c, .int _ m =>
    match zeroOf P e with
    | some z => Cond (isIntTy P xt && z.size == szOf P e) ((0 ≤ m ∧ m < 2 ^ 62) ∧ m * byOf P e ≤ 2 ^ 48 ∧ appTail P e z base n c (n + m.toNat) (zrow z (m.toNat * z.size)).toList h K) False
    | none => False
  | _, _, _ => False
def copyEv (P : Program) (dt : TypeId) (d s : Value) (h : Hp) (K : Value → Hp → Prop) : Prop :=
  match P.underlying dt, d, s with
  | some (.slice e), .slice base n _, .slice b2 m _ =>
    Cond (P.info? e).isSome (∃ news, ReadsO h b2 news ∧ news.length = min m n * szOf P e ∧ fromBase h base 0 news fun h' => K (.int .i64 (min m n : Nat)) h') False
  | _, _, _ => False

section
variable {P : Program}
theorem nextcap_le {need c : Nat} (h : c < need) : Builtin.nextslicecap need c ≤ 2 * need + 768 := by
  have hg : ∀ r x, x ≤ 2 * need + 768 → Builtin.growBy need r x ≤ 2 * need + 768 := by
    intro r
    induction r with
    | zero => intro x hx; exact hx
    | succ r ih =>
      intro x hx
      unfold Builtin.growBy
      split
      · exact hx
      · exact ih _ (by omega)
  unfold Builtin.nextslicecap
  split
  · omega
  · split
    · omega
    · exact hg 4 c (by omega)
theorem Addr.add_zero (a : Addr) : a.add 0 = a := rfl
theorem isInt_false {d : TypeDesc} (h : (match some d with | some (TypeDesc.int _) => true | _ => false) = false) : ∀ k, d ≠ .int k := by
  intro k hk
  subst hk
  simp at h
theorem zeroOf_some {e : TypeId} {z : Array Value} (h : zeroOf P e = some z) : ∃ i v, P.info? e = some i ∧ i.zero = some v ∧ v.cells = z := by
  unfold zeroOf at h
  split at h
  · rename_i i hi
    split at h
    · rename_i v hv
      exact ⟨i, v, hi, hv, by simpa using h⟩
    · cases h
  · cases h
theorem run_choose {q : Question} (hq : q.forced = false) (w : World) : (Go.choose q).run P w = .ok (q.cut (w.tape w.drawn q)) { w with drawn := w.drawn + 1 } := by
  unfold Go.choose
  rw [Sem.run, hq]
  rfl
/-- What is common to the three appends. -/
theorem tail_in {e : TypeId} {z : Array Value} {base : Option Addr} {n c need : Nat} {news : List Value} {w : World} {K : Value → Hp → Prop} (hT : appTail P e z base n c need news w.heap K) (hc : need ≤ c) :
    ∃ w', (match base with
      | some a => do
        storeCells (a.add (n * szOf P e)) news.toArray.toList
        Pure.pure (Value.slice base need c)
      | _ => Pure.pure (Value.slice base need c) : Sem Value).run P w = .ok (.slice base need c) w' ∧ Same w w' ∧ K (.slice base need c) w'.heap := by
  have h := hT.1 hc
  cases base with
  | none => exact ⟨w, rfl, Same.refl _, h⟩
  | some a =>
    obtain ⟨h1, h2⟩ := h
    obtain ⟨w', hr, hs, hh⟩ := run_storeCells (P := P) (a.add (n * szOf P e)) news 0 w h1
    refine ⟨w', ?_, hs, by rw [hh]; exact h2⟩
    simp only [run_bind, hr, run_pure]
theorem append_sound {argTypes : Array TypeId} {ty st xt : TypeId} {s x : Value} {w : World} {K : Value → Hp → Prop} (h0 : argTypes[0]? = some st) (h1 : argTypes[1]? = some xt)
    (h : appendEv P st xt s x w.heap K) : ∃ v w', (Builtin.append_ argTypes ty #[s, x]).run P w = .ok v w' ∧ Same w w' ∧ K v w'.heap := by
  unfold appendEv at h
  split at h
  · rename_i e base n c b2 m c2 ht
    split at h
    · rename_i z hz
      obtain ⟨hx, news, hr, hl, hT⟩ := Cond_true' h
      simp only [Bool.and_eq_true, Bool.not_eq_true'] at hx
      obtain ⟨hx, hint⟩ := hx
      obtain ⟨i, v, hi, hv, rfl⟩ := zeroOf_some hz
      obtain ⟨d, hd⟩ := Option.isSome_iff_exists.1 hx
      have hs : (P.info? e).isSome = true := by rw [hi]; rfl
      have hsz : szOf P e = i.size := by unfold szOf; rw [hi]
      have hby : byOf P e = i.bytes := by unfold byOf; rw [hi]
      have hne := isInt_false (d := d) (by unfold isIntTy at hint; rw [hd] at hint; exact hint)
      unfold Builtin.append_
      simp only [h0, h1]
      have g0 : (#[Value.slice base n c, Value.slice b2 m c2] : Array Value)[0]? = some (Value.slice base n c) := rfl
      have g1 : (#[Value.slice base n c, Value.slice b2 m c2] : Array Value)[1]? = some (Value.slice b2 m c2) := rfl
      simp only [g0, g1]
      simp only [run_bind, run_underlying ht, run_sizeOf hs, run_underlying hd, run_pure]
      simp only [Bool.false_eq_true, if_false, Builtin.lenOf, run_bind, run_pure, Bool.not_false, if_true]
      have hfc := fun w' => run_firstCells_sl (P := P) (c := c2) (m := m) (sz := szOf P e) (n := m) (w := w') (l := news) (b := b2)
      by_cases hc : n + m ≤ c
      · simp only [hc, if_true, run_bind, hfc w hr hl]
        obtain ⟨w', h1, h2, h3⟩ := tail_in hT hc
        exact ⟨_, w', h1, h2, h3⟩
      · obtain ⟨hb1, hb2, olds, ho, hol, hK⟩ := hT.2 (by omega)
        have hnx := nextcap_le (need := n + m) (c := c) (by omega)
        have hle : Builtin.nextslicecap (n + m) c * i.bytes ≤ 2 ^ 48 := by
          rw [hby] at hb1
          exact Nat.le_trans (Nat.mul_le_mul_right _ hnx) hb1
        have hmax : ¬ ((n + m : Nat) : Int) > IntKind.i64.max := by
          show ¬ ((n + m : Nat) : Int) > 9223372036854775807
          have hb2' : n + m < 4611686018427387904 := hb2
          omega
        simp only [hc, if_false, run_bind, run_typeInfo hi, hmax, false_and, Nat.not_lt.2 hle, gt_iff_lt]
        rw [run_choose rfl]
        simp only [run_askRoom]
        generalize hnc : (Question.appendCap (n + m) c e).cut (w.tape w.drawn (Question.appendCap (n + m) c e)) = nc
        have hb2' : n + m < 4611686018427387904 := hb2
        have hnc1 : n + m ≤ nc ∧ nc < 2 ^ 63 := by
          rw [← hnc]
          simp only [Question.cut]
          have := Nat.mod_lt (w.tape w.drawn (Question.appendCap (n + m) c e)) (show 0 < 2 ^ 63 - (n + m) by omega)
          omega
        have hfo := run_firstCells_sl (P := P) (c := c) (m := n) (sz := szOf P e) (n := n) (w := { w with drawn := w.drawn + 1 }) (l := olds) (b := base) ho hol
        simp only [hfo, hfc { w with drawn := w.drawn + 1 } hr hl, run_zeroValue hi hv, run_newRow, run_pure]
        exact ⟨_, _, rfl, ⟨rfl, rfl, rfl⟩, hK nc hnc1.1 hnc1.2⟩
    · exact h.elim
  · rename_i e base n c b ht
    split at h
    · rename_i z hz
      obtain ⟨hx, hT⟩ := Cond_true' h
      simp only [Bool.and_eq_true, Bool.not_eq_true'] at hx
      obtain ⟨⟨hx, hint⟩, _⟩ := hx
      obtain ⟨i, v, hi, hv, rfl⟩ := zeroOf_some hz
      obtain ⟨d, hd⟩ := Option.isSome_iff_exists.1 hx
      have hs : (P.info? e).isSome = true := by rw [hi]; rfl
      have hby : byOf P e = i.bytes := by unfold byOf; rw [hi]
      have hne := isInt_false (d := d) (by unfold isIntTy at hint; rw [hd] at hint; exact hint)
      have hnews : ((b.extract 0 b.size).data.map fun u => Value.int .u8 u.toNat) = (b.data.toList.map fun u => Value.int .u8 u.toNat).toArray := by
        have e1 : b.extract 0 b.size = b := by simp
        rw [e1]
        apply Array.ext'
        simp
      unfold Builtin.append_
      simp only [h0, h1]
      have g0 : (#[Value.slice base n c, Value.string b] : Array Value)[0]? = some (Value.slice base n c) := rfl
      have g1 : (#[Value.slice base n c, Value.string b] : Array Value)[1]? = some (Value.string b) := rfl
      simp only [g0, g1]
      simp only [run_bind, run_underlying ht, run_sizeOf hs, run_underlying hd, run_pure]
      simp only [Bool.false_eq_true, if_false, Builtin.lenOf, run_bind, run_pure, Bool.not_false, if_true, Builtin.firstCells, hnews]
      by_cases hc : n + b.size ≤ c
      · simp only [hc, if_true, run_bind, run_pure]
        obtain ⟨w', h1, h2, h3⟩ := tail_in hT hc
        exact ⟨_, w', h1, h2, h3⟩
      · obtain ⟨hb1, hb2, olds, ho, hol, hK⟩ := hT.2 (by omega)
        have hnx := nextcap_le (need := n + b.size) (c := c) (by omega)
        have hle : Builtin.nextslicecap (n + b.size) c * i.bytes ≤ 2 ^ 48 := by
          rw [hby] at hb1
          exact Nat.le_trans (Nat.mul_le_mul_right _ hnx) hb1
        have hmax : ¬ ((n + b.size : Nat) : Int) > IntKind.i64.max := by
          show ¬ ((n + b.size : Nat) : Int) > 9223372036854775807
          have hb2' : n + b.size < 4611686018427387904 := hb2
          omega
        simp only [hc, if_false, run_bind, run_typeInfo hi, hmax, false_and, Nat.not_lt.2 hle, gt_iff_lt]
        rw [run_choose rfl]
        simp only [run_askRoom]
        generalize hnc : (Question.appendCap (n + b.size) c e).cut (w.tape w.drawn (Question.appendCap (n + b.size) c e)) = nc
        have hb2' : n + b.size < 4611686018427387904 := hb2
        have hnc1 : n + b.size ≤ nc ∧ nc < 2 ^ 63 := by
          rw [← hnc]
          simp only [Question.cut]
          have := Nat.mod_lt (w.tape w.drawn (Question.appendCap (n + b.size) c e)) (show 0 < 2 ^ 63 - (n + b.size) by omega)
          omega
        have hfo := run_firstCells_sl (P := P) (c := c) (m := n) (sz := szOf P e) (n := n) (w := { w with drawn := w.drawn + 1 }) (l := olds) (b := base) ho hol
        unfold Builtin.firstCells at hfo
        simp only [hfo, run_zeroValue hi hv, run_newRow, run_pure]
        exact ⟨_, _, rfl, ⟨rfl, rfl, rfl⟩, hK nc hnc1.1 hnc1.2⟩
    · exact h.elim
  · rename_i e base n c k m ht
    split at h
    · rename_i z hz
      obtain ⟨hx, ⟨hm0, hm1⟩, hmb, hT⟩ := Cond_true' h
      simp only [Bool.and_eq_true, beq_iff_eq] at hx
      obtain ⟨hint, hzs⟩ := hx
      obtain ⟨i, v, hi, hv, rfl⟩ := zeroOf_some hz
      have hs : (P.info? e).isSome = true := by rw [hi]; rfl
      have hsz : szOf P e = i.size := by unfold szOf; rw [hi]
      have hby : byOf P e = i.bytes := by unfold byOf; rw [hi]
      obtain ⟨kd, hd⟩ : ∃ kd, P.underlying xt = some (.int kd) := by
        unfold isIntTy at hint
        split at hint
        · rename_i kd hd; exact ⟨kd, hd⟩
        · cases hint
      have hnews : ∀ w', (if m.toNat * szOf P e = 0 then (Pure.pure #[] : Sem (Array Value)) else do Pure.pure (Builtin.zeroCells (← zeroValue e).cells m.toNat)).run P w' = .ok (zrow v.cells (m.toNat * v.cells.size)) w' := by
        intro w'
        split
        · rename_i h0
          rw [← hzs] at h0
          rw [h0, run_pure]
          simp [zrow]
        · simp only [run_bind, run_zeroValue hi hv, run_pure]
          rfl
      have hta : (zrow v.cells (m.toNat * v.cells.size)).toList.toArray = zrow v.cells (m.toNat * v.cells.size) := Array.toArray_toList
      have hmb' : m * i.bytes ≤ 2 ^ 48 := by rw [← hby]; exact hmb
      unfold Builtin.append_
      simp only [h0, h1]
      have g0 : (#[Value.slice base n c, Value.int k m] : Array Value)[0]? = some (Value.slice base n c) := rfl
      have g1 : (#[Value.slice base n c, Value.int k m] : Array Value)[1]? = some (Value.int k m) := rfl
      simp only [g0, g1]
      simp only [run_bind, run_underlying ht, run_sizeOf hs, run_underlying hd, run_pure, asInt, asIntOf, if_true, wrap_i64 hm0 hm1, Int.not_lt.2 hm0, if_false, run_typeInfo hi, gt_iff_lt, Int.not_lt.2 hmb', Bool.not_true, Bool.false_eq_true, true_or, and_true]
      by_cases hc : n + m.toNat ≤ c
      · simp only [hc, if_true, run_bind, hnews]
        obtain ⟨w', h1, h2, h3⟩ := tail_in hT hc
        rw [hta] at h1
        exact ⟨_, w', h1, h2, h3⟩
      · obtain ⟨hb1, hb2, olds, ho, hol, hK⟩ := hT.2 (by omega)
        have hnx := nextcap_le (need := n + m.toNat) (c := c) (by omega)
        have hle : Builtin.nextslicecap (n + m.toNat) c * i.bytes ≤ 2 ^ 48 := by
          rw [hby] at hb1
          exact Nat.le_trans (Nat.mul_le_mul_right _ hnx) hb1
        have hmax : ¬ IntKind.i64.max < ((n + m.toNat : Nat) : Int) := by
          show ¬ 9223372036854775807 < ((n + m.toNat : Nat) : Int)
          have hb2' : n + m.toNat < 4611686018427387904 := hb2
          omega
        simp only [hc, if_false, run_bind, run_typeInfo hi, hmax, Nat.not_lt.2 hle]
        rw [run_choose rfl]
        simp only [run_askRoom]
        generalize hnc : (Question.appendCap (n + m.toNat) c e).cut (w.tape w.drawn (Question.appendCap (n + m.toNat) c e)) = nc
        have hb2' : n + m.toNat < 4611686018427387904 := hb2
        have hnc1 : n + m.toNat ≤ nc ∧ nc < 2 ^ 63 := by
          rw [← hnc]
          simp only [Question.cut]
          have := Nat.mod_lt (w.tape w.drawn (Question.appendCap (n + m.toNat) c e)) (show 0 < 2 ^ 63 - (n + m.toNat) by omega)
          omega
        have hfo := run_firstCells_sl (P := P) (c := c) (m := n) (sz := szOf P e) (n := n) (w := { w with drawn := w.drawn + 1 }) (l := olds) (b := base) ho hol
        simp only [hfo, hnews, run_zeroValue hi hv, run_newRow, run_pure]
        have hK' := hK nc hnc1.1 hnc1.2
        rw [hta] at hK'
        exact ⟨_, _, rfl, ⟨rfl, rfl, rfl⟩, hK'⟩
    · exact h.elim
  · exact h.elim
theorem copy_sound {argTypes : Array TypeId} {ty dt : TypeId} {d s : Value} {w : World} {K : Value → Hp → Prop} (h0 : argTypes[0]? = some dt)
    (h : copyEv P dt d s w.heap K) : ∃ v w', (Builtin.copy_ argTypes ty #[d, s]).run P w = .ok v w' ∧ Same w w' ∧ K v w'.heap := by
  unfold copyEv at h
  split at h
  · rename_i e base n c b2 m c2 ht
    obtain ⟨hs, news, hr, hl, hT⟩ := Cond_true' h
    unfold Builtin.copy_
    simp only [h0]
    have g0 : (#[Value.slice base n c, Value.slice b2 m c2] : Array Value)[0]? = some (Value.slice base n c) := rfl
    have g1 : (#[Value.slice base n c, Value.slice b2 m c2] : Array Value)[1]? = some (Value.slice b2 m c2) := rfl
    have hl' : news.length = Nat.min m n * szOf P e := hl
    simp only [g0, g1]
    simp only [run_bind, run_underlying ht, run_sizeOf hs, run_pure, Builtin.lenOf, run_firstCells_sl hr hl']
    cases base with
    | none => exact ⟨_, w, rfl, Same.refl _, hT⟩
    | some a =>
      obtain ⟨h1, h2⟩ := hT
      obtain ⟨w', hr, hs, hh⟩ := run_storeCells (P := P) (a.add 0) news 0 w h1
      refine ⟨_, w', ?_, hs, by rw [hh]; exact h2⟩
      have hr' : (storeCells a news).run P w = .ok () w' := hr
      simp only [run_bind, hr', run_pure]
      rfl
  · exact h.elim
end
end Go.Ev
