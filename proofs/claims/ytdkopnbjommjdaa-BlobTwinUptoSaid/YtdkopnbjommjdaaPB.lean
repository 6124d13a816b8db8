/- Memory by parts; the heap's graph, room, and a blob's words as plain data. No condition but that it is one. -/
import Derived.Test.YtdkopnbjommjdaaHM
import Derived.Test.YtdkopnbjommjdaaHZ
import Derived.Test.YtdkopnbjommjdaaAB
set_option linter.all false
set_option maxRecDepth 100000
namespace Go.Ev
structure Mem where
  loc : Nat → Option Nat
  cont : Nat → List Value
structure Sep (h : Hp) (M : Mem) : Prop where
  row : ∀ x b, M.loc x = some b → Row h b (M.cont x)
  inj : ∀ x y b, M.loc x = some b → M.loc y = some b → x = y
def Mem.own (M : Mem) (b : Nat) : Prop := ∃ x, M.loc x = some b
def Mem.upd (M : Mem) (x : Nat) (b : Option Nat) (c : List Value) : Mem := ⟨fun y => if y = x then b else M.loc y, fun y => if y = x then c else M.cont y⟩
theorem Mem.loc_self (M : Mem) (x : Nat) (b : Option Nat) (c : List Value) : (M.upd x b c).loc x = b := if_pos rfl
theorem Mem.cont_self (M : Mem) (x : Nat) (b : Option Nat) (c : List Value) : (M.upd x b c).cont x = c := if_pos rfl
theorem Mem.loc_ne (M : Mem) {x y : Nat} (b : Option Nat) (c : List Value) (h : y ≠ x) : (M.upd x b c).loc y = M.loc y := if_neg h
theorem Mem.cont_ne (M : Mem) {x y : Nat} (b : Option Nat) (c : List Value) (h : y ≠ x) : (M.upd x b c).cont y = M.cont y := if_neg h
/-- What a call that works on the parts may change. -/
def Chg (h : Hp) (M : Mem) (h' : Hp) (M' : Mem) : Prop := Kept M.own h h' ∧ ∀ b, M'.own b → M.own b ∨ h.size ≤ b
section
variable {h h' h2 : Hp} {M M' M2 : Mem}
theorem Chg.refl (h : Hp) (M : Mem) : Chg h M h M := ⟨Kept.refl _ _, fun _ => .inl⟩
theorem Chg.trans (a : Chg h M h' M') (b : Chg h' M' h2 M2) : Chg h M h2 M2 :=
  ⟨⟨Nat.le_trans a.1.1 b.1.1, fun i hi hn => (b.1.2 i (Nat.lt_of_lt_of_le hi a.1.1) fun o => (a.2 i o).elim hn fun h => by omega).trans (a.1.2 i hi hn)⟩,
    fun i o => (b.2 i o).elim (a.2 i) fun h => .inr (Nat.le_trans a.1.1 h)⟩
theorem Chg.of_kept (k : Kept (fun _ => False) h h') : Chg h M h' M := ⟨k.mono fun _ _ e => e.elim, fun _ => .inl⟩
theorem Sep.lt (s : Sep h M) {x b : Nat} (hx : M.loc x = some b) : b < h.size := row_lt (s.row x b hx)
theorem Sep.own_lt (s : Sep h M) {b : Nat} (hb : M.own b) : b < h.size := by obtain ⟨x, hx⟩ := hb; exact s.lt hx
theorem Sep.keep (s : Sep h M) {S : Nat → Prop} (k : Kept S h h') (hS : ∀ b, M.own b → ¬ S b) : Sep h' M := ⟨fun x b hx => kept_row k (s.row x b hx) (hS b ⟨x, hx⟩), s.inj⟩
theorem Sep.keepN (s : Sep h M) (k : Kept (fun _ => False) h h') : Sep h' M := s.keep k fun _ _ e => e
theorem Sep.cell (s : Sep h M) {x b : Nat} (hx : M.loc x = some b) (o : Nat) : Go.Ev.cell h ⟨b, o, none⟩ = (M.cont x)[o]? := cell_row (s.row x b hx) o
theorem Sep.cellA (s : Sep h M) {x b : Nat} (hx : M.loc x = some b) (o : Nat) : Go.Ev.cell h ((ad b).add o) = (M.cont x)[o]? := by rw [add_ad]; exact s.cell hx o
theorem Sep.cell0 (s : Sep h M) {x b : Nat} (hx : M.loc x = some b) : Go.Ev.cell h (ad b) = (M.cont x)[0]? := s.cell hx 0
/-- One cell of a part is written. -/
theorem Sep.st (s : Sep h M) {x b o : Nat} (hx : M.loc x = some b) {a : Addr} {v : Value} (ha : a = ⟨b, o, none⟩) (ho : o < (M.cont x).length) {K : Hp → Prop}
    (hK : ∀ h', Sep h' (M.upd x (some b) ((M.cont x).set o v)) → Chg h M h' (M.upd x (some b) ((M.cont x).set o v)) → K h') : stOk h a ∧ Let (setc h a v) fun h' => K h' := by
  subst ha
  refine ⟨stOk_row (s.row x b hx) ho, hK _ ⟨fun y c hy => ?_, fun y z c hy hz => ?_⟩ ⟨?_, fun c hc => ?_⟩⟩
  · by_cases e : y = x
    · subst e
      rw [Mem.loc_self] at hy
      obtain rfl := Option.some.inj hy
      rw [Mem.cont_self]
      exact row_setc (s.row y b hx) o v
    · rw [Mem.loc_ne _ _ _ e] at hy
      rw [Mem.cont_ne _ _ _ e]
      exact row_setc_ne (s.row y c hy) v fun (e' : c = b) => e (s.inj y x b (e' ▸ hy) hx)
  · have loc : ∀ w, (M.upd x (some b) ((M.cont x).set o v)).loc w = some c → M.loc w = some c := fun w hw => by
      by_cases e : w = x
      · subst e; rw [Mem.loc_self] at hw; rw [hx]; exact hw
      · rwa [Mem.loc_ne _ _ _ e] at hw
    exact s.inj y z c (loc y hy) (loc z hz)
  · exact kept_setc h o v ⟨x, hx⟩
  · obtain ⟨y, hy⟩ := hc
    by_cases e : y = x
    · subst e; rw [Mem.loc_self] at hy; obtain rfl := Option.some.inj hy; exact .inl ⟨y, hx⟩
    · rw [Mem.loc_ne _ _ _ e] at hy; exact .inl ⟨y, hy⟩
/-- A part's block is another, new one (or none). -/
theorem Sep.renew (s : Sep h M) {x : Nat} {ob : Option Nat} {c : List Value} (k : Kept (fun b => M.loc x = some b) h h') (hr : ∀ b, ob = some b → Row h' b c) (hn : ∀ b, ob = some b → M.loc x = some b ∨ h.size ≤ b) :
    Sep h' (M.upd x ob c) ∧ Chg h M h' (M.upd x ob c) := by
  have lo : ∀ y c', y ≠ x → M.loc y = some c' → c' < h.size := fun y c' _ hy => s.lt hy
  refine ⟨⟨fun y c' hy => ?_, fun y z c' hy hz => ?_⟩, ⟨k.mono fun b _ e => ⟨x, e⟩, fun b hb => ?_⟩⟩
  · by_cases e : y = x
    · subst e
      rw [Mem.loc_self] at hy
      rw [Mem.cont_self]
      exact hr c' hy
    · rw [Mem.loc_ne _ _ _ e] at hy
      rw [Mem.cont_ne _ _ _ e]
      exact kept_row k (s.row y c' hy) fun e' => e (s.inj y x c' hy e')
  · by_cases e : y = x <;> by_cases e2 : z = x
    · rw [e, e2]
    · subst e
      rw [Mem.loc_self] at hy
      rw [Mem.loc_ne _ _ _ e2] at hz
      rcases hn c' hy with h1 | h1
      · exact absurd (s.inj z y c' hz h1) e2
      · have := s.lt hz; omega
    · subst e2
      rw [Mem.loc_self] at hz
      rw [Mem.loc_ne _ _ _ e] at hy
      rcases hn c' hz with h1 | h1
      · exact absurd (s.inj y z c' hy h1) e
      · have := s.lt hy; omega
    · rw [Mem.loc_ne _ _ _ e] at hy
      rw [Mem.loc_ne _ _ _ e2] at hz
      exact s.inj y z c' hy hz
  · obtain ⟨y, hy⟩ := hb
    by_cases e : y = x
    · subst e
      rw [Mem.loc_self] at hy
      exact (hn b hy).imp_left fun h => ⟨y, h⟩
    · rw [Mem.loc_ne _ _ _ e] at hy; exact .inl ⟨y, hy⟩
theorem Sep.push (s : Sep h M) (x : Nat) (arr : Array Value) (t : TypeId) : Sep (h.push (.cells arr t)) (M.upd x (some h.size) arr.toList) ∧ Chg h M (h.push (.cells arr t)) (M.upd x (some h.size) arr.toList) :=
  s.renew (kept_push _ _ _) (fun b e => by obtain rfl := Option.some.inj e; exact row_new h arr t) fun b e => .inr (by obtain rfl := Option.some.inj e; exact Nat.le_refl _)
theorem Sep.drop (s : Sep h M) (x : Nat) (c : List Value) : Sep h (M.upd x none c) ∧ Chg h M h (M.upd x none c) := s.renew (Kept.refl _ _) (fun b e => by cases e) fun b e => by cases e
end
/-- A slice over a part. -/
structure IsSl (sz : Nat) (M : Mem) (x : Nat) (s : Sl) (vs : List Value) : Prop where
  len : vs.length = s.n * sz
  nil : M.loc x = none → s.a = none ∧ s.n = 0 ∧ s.c = 0
  row : ∀ b, M.loc x = some b → s.a = some (ad b) ∧ s.n ≤ s.c ∧ ∃ junk, M.cont x = vs ++ junk ∧ vs.length + junk.length = s.c * sz
section
variable {h h' : Hp} {M M' : Mem} {sz x y : Nat} {s : Sl} {vs : List Value}
theorem IsSl.slAt (i : IsSl sz M x s vs) (p : Sep h M) : SlAt sz h s.a s.n s.c (M.loc x) vs :=
  ⟨i.len, i.nil, fun b hb => by obtain ⟨h1, h2, j, h3, h4⟩ := i.row b hb; exact ⟨h1, h2, j, by rw [← h3]; exact p.row x b hb, h4⟩⟩
theorem IsSl.other (i : IsSl sz M y s vs) {b : Option Nat} {c : List Value} (h : y ≠ x) : IsSl sz (M.upd x b c) y s vs :=
  ⟨i.len, fun e => i.nil (by rwa [Mem.loc_ne _ _ _ h] at e), fun b' e => by
    rw [Mem.loc_ne _ _ _ h] at e
    rw [Mem.cont_ne _ _ _ h]
    exact i.row b' e⟩
theorem IsSl.nilSl (M : Mem) (sz x : Nat) (c : List Value) : IsSl sz (M.upd x none c) x ⟨none, 0, 0⟩ [] := ⟨by simp, fun _ => ⟨rfl, rfl, rfl⟩, fun b e => by rw [Mem.loc_self] at e; cases e⟩
theorem IsSl.some_of (i : IsSl sz M x s vs) (hn : vs ≠ []) : ∃ b, M.loc x = some b ∧ s.a = some (ad b) := by
  cases hl : M.loc x with
  | none =>
    have := (i.nil hl).2.1
    have := i.len
    exact absurd (List.length_eq_zero_iff.1 (by rw [i.len, ‹s.n = 0›]; omega)) hn
  | some b => exact ⟨b, rfl, (i.row b hl).1⟩
/-- A cell of a slice. -/
theorem IsSl.at (i : IsSl sz M x s vs) (p : Sep h M) {o : Nat} {v : Value} (hv : vs[o]? = some v) : ∃ b, M.loc x = some b ∧ s.a = some (ad b) ∧ cell h ⟨b, o, none⟩ = some v := by
  have ho := (List.getElem?_eq_some_iff.1 hv).1
  obtain ⟨b, hb, ha⟩ := i.some_of (fun e => by rw [e] at ho; simp at ho)
  obtain ⟨_, _, j, h3, _⟩ := i.row b hb
  exact ⟨b, hb, ha, by rw [p.cell hb, h3, List.getElem?_append_left ho]; exact hv⟩
/-- A cell of a slice is written. -/
theorem IsSl.set (i : IsSl sz M x s vs) {b o : Nat} (hb : M.loc x = some b) (v : Value) (ho : o < vs.length) : o < (M.cont x).length ∧ IsSl sz (M.upd x (some b) ((M.cont x).set o v)) x s (vs.set o v) := by
  obtain ⟨h1, h2, j, h3, h4⟩ := i.row b hb
  refine ⟨by rw [h3, List.length_append]; omega, ⟨by rw [List.length_set]; exact i.len, (fun e => by rw [Mem.loc_self] at e; cases e), fun b' e => ?_⟩⟩
  rw [Mem.loc_self] at e
  obtain rfl := Option.some.inj e
  rw [Mem.cont_self]
  exact ⟨h1, h2, j, by rw [h3, List.set_append_left _ _ ho], by rw [List.length_set]; exact h4⟩
/-- append -/
theorem IsSl.app {e bys : Nat} {z : Array Value} {m : Nat} {news : List Value} {K : Option Addr → Nat → Nat → Hp → Prop} (i : IsSl sz M x s vs) (p : Sep h M) (hz : z.size = sz) (hl : news.length = m * sz) (hcell : ∀ v ∈ news, isCell v = true)
    (hby : (2 * (s.n + m) + 768) * bys ≤ 2 ^ 48) (hlt : s.n + m < 2 ^ 62)
    (hK : ∀ a' c' h' ob c, Sep h' (M.upd x ob c) → IsSl sz (M.upd x ob c) x ⟨a', s.n + m, c'⟩ (vs ++ news) → Chg h M h' (M.upd x ob c) → K a' (s.n + m) c' h') : appT e sz bys z s.a s.n s.c (s.n + m) news h K := by
  refine appT_ok2 (i.slAt p) hz hl hcell hby hlt fun a' c' ob' h' s' hcase => ?_
  have fin : ∀ c, (∀ b, ob' = some b → Row h' b c) → (∀ b, ob' = some b → a' = some (ad b) ∧ s.n + m ≤ c' ∧ ∃ junk, c = (vs ++ news) ++ junk ∧ (vs ++ news).length + junk.length = c' * sz) → K a' (s.n + m) c' h' := fun c hr hs => by
    have k : Kept (fun b => M.loc x = some b) h h' := by
      rcases hcase with ⟨_, k⟩ | ⟨_, k⟩
      · exact k
      · exact k.mono fun _ _ e => e.elim
    have hn : ∀ b, ob' = some b → M.loc x = some b ∨ h.size ≤ b := fun b e => by
      rcases hcase with ⟨q, _⟩ | ⟨q, _⟩
      · exact .inl (q ▸ e)
      · rw [q] at e; obtain rfl := Option.some.inj e; exact .inr (Nat.le_refl _)
    obtain ⟨q1, q2⟩ := p.renew (x := x) k hr hn
    refine hK a' c' h' ob' c q1 ⟨s'.len, fun e => ?_, fun b e => ?_⟩ q2
    · rw [Mem.loc_self] at e; exact s'.nil e
    · rw [Mem.loc_self] at e
      rw [Mem.cont_self]
      exact hs b e
  cases ho : ob' with
  | none => exact fin [] (fun b e => by rw [ho] at e; cases e) fun b e => by rw [ho] at e; cases e
  | some b =>
    obtain ⟨q1, q2, j, q3, q4⟩ := s'.row b ho
    refine fin ((vs ++ news) ++ j) (fun b' e => ?_) fun b' e => ?_
    · rw [ho] at e; obtain rfl := Option.some.inj e; exact q3
    · rw [ho] at e; obtain rfl := Option.some.inj e; exact ⟨q1, q2, j, rfl, q4⟩
/-- append of one element that lies in a new block -/
theorem IsSl.app1 {e bys : Nat} {z : Array Value} {arr : Array Value} {t : TypeId} {K : Option Addr → Nat → Nat → Hp → Prop} (i : IsSl sz M x s vs) (p : Sep h M) (hz : z.size = sz) (hl : arr.toList.length = 1 * sz) (hcell : ∀ v ∈ arr.toList, isCell v = true)
    (hby : (2 * (s.n + 1) + 768) * bys ≤ 2 ^ 48) (hlt : s.n + 1 < 2 ^ 62)
    (hK : ∀ a' c' h' ob c, Sep h' (M.upd x ob c) → IsSl sz (M.upd x ob c) x ⟨a', s.n + 1, c'⟩ (vs ++ arr.toList) → Chg h M h' (M.upd x ob c) → K a' (s.n + 1) c' h') :
    Let (h.push (.cells arr t)) fun h2 => appSl e sz bys z s.a s.n s.c (some (nb h)) 1 h2 K := by
  show (fun h2 => appSl e sz bys z s.a s.n s.c (some (nb h)) 1 h2 K) (h.push (.cells arr t))
  generalize e2 : h.push (.cells arr t) = h2
  have e2 := e2.symm
  have k2 : Kept (fun _ => False) h h2 := e2 ▸ kept_push _ _ _
  have row2 : Row h2 h.size arr.toList := e2 ▸ row_new h arr t
  exact ⟨arr.toList, reads_row row2 (fun j v hj => by rw [Nat.zero_add]; exact hj), hl, i.app (p.keepN k2) hz hl hcell hby hlt fun a' c' h' ob c q1 q2 q3 => hK a' c' h' ob c q1 q2 ((Chg.of_kept k2).trans q3)⟩
end
end Go.Ev
set_option linter.all false
set_option maxRecDepth 100000
namespace Go.Ev
open Go.Proofs
section
variable {h h' : Hp}
theorem flat_len {α : Type} {f : α → List Value} {sz : Nat} (hf : ∀ x, (f x).length = sz) : ∀ l : List α, (l.flatMap f).length = l.length * sz
  | [] => by simp
  | x :: l => by rw [List.flatMap_cons, List.length_append, hf, flat_len hf l, List.length_cons, Nat.add_mul]; omega
theorem flat_at {α : Type} {f : α → List Value} {sz : Nat} (hf : ∀ x, (f x).length = sz) : ∀ (l : List α) (i j : Nat) (x : α), l[i]? = some x → j < sz → (l.flatMap f)[i * sz + j]? = (f x)[j]?
  | [], _, _, _, h, _ => by simp at h
  | y :: l, 0, j, x, h, hj => by
    obtain rfl : y = x := by simpa using h
    rw [List.flatMap_cons, Nat.zero_mul, Nat.zero_add, List.getElem?_append_left (by rw [hf]; exact hj)]
  | y :: l, i + 1, j, x, h, hj => by
    rw [List.flatMap_cons, List.getElem?_append_right (by rw [hf, Nat.add_mul]; omega), hf]
    have e : (i + 1) * sz + j - sz = i * sz + j := by rw [Nat.add_mul]; omega
    rw [e]
    exact flat_at hf l i j x (by simpa using h) hj
theorem flat_set {α : Type} {f : α → List Value} {sz : Nat} (hf : ∀ x, (f x).length = sz) : ∀ (l : List α) (i j : Nat) (x x' : α) (v : Value), l[i]? = some x → j < sz → f x' = (f x).set j v → (l.flatMap f).set (i * sz + j) v = (l.set i x').flatMap f
  | [], _, _, _, _, _, h, _, _ => by simp at h
  | y :: l, 0, j, x, x', v, h, hj, e => by
    obtain rfl : y = x := by simpa using h
    rw [List.flatMap_cons, Nat.zero_mul, Nat.zero_add, List.set_append_left _ _ (by rw [hf]; exact hj), List.set_cons_zero, List.flatMap_cons, e]
  | y :: l, i + 1, j, x, x', v, h, hj, e => by
    rw [List.flatMap_cons, List.set_append_right _ _ (by rw [hf, Nat.add_mul]; omega), hf, List.set_cons_succ, List.flatMap_cons]
    have e2 : (i + 1) * sz + j - sz = i * sz + j := by rw [Nat.add_mul]; omega
    rw [e2, flat_set hf l i j x x' v (by simpa using h) hj e]
def rootZ : Option Nat → Value
  | some id => nv id
  | none => .int .i64 (-1)
theorem sl_at {M : Mem} {x : Nat} {sl : Sl} {α : Type} {l : List α} {f : α → Value} (i : IsSl 1 M x sl (l.map f)) (p : Sep h M) {k : Nat} {a : α} (hk : l[k]? = some a) : ∃ b, M.loc x = some b ∧ sl.a = some (ad b) ∧ cell h ((ad b).add (k * 1)) = some (f a) ∧ ((0 : Int) ≤ (k : Int) ∧ (k : Int) < ((sl.n : Nat) : Int)) := by
  obtain ⟨b, hb, ha, hc⟩ := i.at p (o := k) (v := f a) (by rw [List.getElem?_map, hk]; rfl)
  have hl := i.len
  rw [List.length_map] at hl
  have := (List.getElem?_eq_some_iff.1 hk).1
  exact ⟨b, hb, ha, by rw [add_ad, Nat.mul_one]; exact hc, by omega, by omega⟩
theorem reads_kept {h h' : Hp} {S : Nat → Prop} (k : Kept S h h') {a : Option Addr} {vs : List Value} (r : ReadsO h a vs) (hS : ∀ p, a = some p → p.block < h.size ∧ ¬ S p.block) : ReadsO h' a vs := by
  cases a with
  | none => exact r
  | some p =>
    obtain ⟨h1, h2⟩ := hS p rfl
    have e := k.2 _ h1 h2
    intro j v hv
    have := r j v hv
    unfold cell at this ⊢
    have eb : (p.add j).block = p.block := by unfold Addr.add; split <;> rfl
    rw [eb] at this ⊢
    rw [e]
    exact this
theorem reads_kept2 {h h' : Hp} {S : Nat → Prop} (k : Kept S h h') {a : Option Addr} {vs : List Value} (r : ReadsO h a vs) (hS : ∀ p, a = some p → vs ≠ [] → p.block < h.size ∧ ¬ S p.block) : ReadsO h' a vs := by
  by_cases hv : vs = []
  · subst hv
    cases a with
    | none => rfl
    | some p => intro j v hv; simp at hv
  · exact reads_kept k r fun p hp => hS p hp hv
theorem reads_keptN {h h' : Hp} (k : Kept (fun _ => False) h h') {a : Option Addr} {vs : List Value} (r : ReadsO h a vs) : ReadsO h' a vs := by
  refine reads_kept2 k r fun p hp hv => ⟨?_, id⟩
  subst hp
  cases vs with
  | nil => exact absurd rfl hv
  | cons v vs =>
    have h0 : cell h (p.add 0) = some v := r 0 v rfl
    unfold cell at h0
    have eb : (p.add 0).block = p.block := by unfold Addr.add; rfl
    rw [eb] at h0
    by_cases hl : p.block < h.size
    · exact hl
    · rw [Array.getElem?_eq_none (by omega)] at h0
      cases h0
theorem or_l {a b c : Prop} : ((a ∨ b) ∨ c) ↔ (b ∨ a ∨ c) := ⟨fun h => h.elim (fun h => h.elim (fun h => .inr (.inl h)) .inl) (fun h => .inr (.inr h)), fun h => h.elim (fun h => .inl (.inr h)) fun h => h.elim (fun h => .inl (.inl h)) .inr⟩
theorem or_r {a b c : Prop} : (a ∨ b ∨ c) ↔ (c ∨ a ∨ b) := ⟨fun h => h.elim (fun h => .inr (.inl h)) fun h => h.elim (fun h => .inr (.inr h)) .inl, fun h => h.elim (fun h => .inr (.inr h)) fun h => h.elim .inl fun h => .inr (.inl h)⟩
theorem PtrOk_mk' {o : Option Addr} {a : Addr} {K : Addr → Prop} (e : o = some a) (h : K a) : PtrOk o K := e ▸ h
theorem readsO_get {h : Hp} {a : Option Addr} {vs : List Value} (r : ReadsO h a vs) {i : Nat} {v : Value} (hv : vs[i]? = some v) : ∃ p, a = some p ∧ cell h (p.add i) = some v := by
  cases a with
  | none =>
    have e : vs = [] := r
    rw [e] at hv
    cases hv
  | some p => exact ⟨p, rfl, r i v hv⟩
theorem slAt_reads {h : Hp} {a : Option Addr} {n c : Nat} {ob : Option Nat} {vs : List Value} (s : SlAt 1 h a n c ob vs) : ReadsO h a vs := by
  cases ob with
  | none =>
    have h1 := s.nil rfl
    have h2 := s.len
    rw [h1.1]
    have : vs.length = 0 := by rw [h2, h1.2.1]
    exact List.length_eq_zero_iff.1 this
  | some b =>
    obtain ⟨h1, _, j, h3, _⟩ := s.row b rfl
    rw [h1]
    exact reads_row h3 fun k v hv => by rw [Nat.zero_add, List.getElem?_append_left (List.getElem?_eq_some_iff.1 hv).1]; exact hv
theorem row_reads {h : Hp} {b : Nat} {vs : List Value} (r : Row h b vs) : ReadsO h (some (ad b)) vs := reads_row r fun j v hv => by rw [Nat.zero_add]; exact hv
theorem add_add (p : Addr) (a b : Nat) : (p.add a).add b = p.add (a + b) := by
  unfold Addr.add
  by_cases ha : a = 0
  · subst ha; simp
  · by_cases hb : b = 0
    · subst hb; simp
    · rw [if_neg ha, if_neg hb, if_neg (by omega), Nat.add_assoc]
theorem shift8 (j : Nat) : (min (IntKind.wrap .u64 (IntKind.wrap .i64 ((8 : Int) * (((j % 8 : Nat) : Int))))).toNat (IntKind.bits .u64)) = j % 8 * 8 ∧ (0 : Int) ≤ IntKind.wrap .u64 (IntKind.wrap .i64 ((8 : Int) * (((j % 8 : Nat) : Int)))) := by
  rw [wrap_ar (x := (8 : Int) * (((j % 8 : Nat) : Int))) (by omega) (by omega), wrap_u64' (by omega) (by omega), bits_u64]
  omega
theorem tmod8 (p : Nat) : Int.tmod (p : Int) (8 : Int) = ((p % 8 : Nat) : Int) := by rw [tmod_nn (by omega)]; omega
end
end Go.Ev
set_option linter.all false
set_option maxRecDepth 100000
namespace Go.Ev
open Go.Proofs
namespace RS
section
variable {s : RS}
theorem become_len (n : Nat) : (s.become n).objs.length = s.objs.length ∧ (s.become n).roots = s.roots := by unfold become; split <;> exact ⟨rfl, rfl⟩
theorem fit_len (n : Nat) : (s.fit n).objs.length = s.objs.length ∧ (s.fit n).roots = s.roots := by
  unfold fit
  split
  · split
    · exact become_len _
    · exact ⟨rfl, rfl⟩
  · split
    · exact become_len _
    · exact ⟨rfl, rfl⟩
theorem coll_len : s.collection.objs.length = s.objs.length ∧ s.collection.roots = s.roots := by unfold collection; exact ⟨by simp, rfl⟩
theorem collect_len : s.collect.objs.length = s.objs.length ∧ s.collect.roots = s.roots := by
  unfold collect
  exact ⟨(fit_len _).1.trans coll_len.1, (fit_len _).2.trans coll_len.2⟩
theorem resize_len (n : Int) : (s.resize n).1.objs.length = s.objs.length ∧ (s.resize n).1.roots = s.roots := by
  unfold resize
  split
  · exact ⟨rfl, rfl⟩
  · split
    · exact coll_len
    · exact ⟨(become_len _).1.trans coll_len.1, (become_len _).2.trans coll_len.2⟩
theorem setObj_len (id : Nat) (o : RObj) : (s.setObj id o).objs.length = s.objs.length ∧ (s.setObj id o).roots = s.roots := ⟨by unfold setObj; simp, rfl⟩
theorem setF_len (r : Nat) (i : Int) (x : Nat) : (s.setF r i x).1.objs.length = s.objs.length ∧ (s.setF r i x).1.roots = s.roots := by
  unfold setF
  split
  · exact ⟨rfl, rfl⟩
  · split
    · exact ⟨rfl, rfl⟩
    · split
      · split
        · exact ⟨rfl, rfl⟩
        · exact setObj_len _ _
      · exact setObj_len _ _
theorem setBytesF_len (r : Nat) (f : Int) (cs : List Nat) : (s.setBytesF r f cs).1.objs.length = s.objs.length ∧ (s.setBytesF r f cs).1.roots = s.roots := by
  unfold setBytesF
  split
  · exact setObj_len _ _
  · exact ⟨rfl, rfl⟩
theorem putF_len (n : Int) (r : Nat) : (s.putF n r).1.objs.length = s.objs.length ∧ (s.putF n r).1.roots.length = s.roots.length := by
  unfold putF
  split
  · exact ⟨rfl, rfl⟩
  · split
    · exact ⟨rfl, by unfold withRoots; simp⟩
    · exact ⟨rfl, rfl⟩
theorem dropF_len (n : Int) : (s.dropF n).1.objs.length = s.objs.length ∧ (s.dropF n).1.roots.length = s.roots.length := by
  unfold dropF
  split
  · exact ⟨rfl, rfl⟩
  · exact ⟨rfl, by unfold withRoots; simp⟩
theorem rootF_len (r : Nat) : (s.rootF r).1.objs.length = s.objs.length ∧ (s.rootF r).1.roots.length ≤ s.roots.length + 1 := by
  unfold rootF
  split
  · refine ⟨rfl, ?_⟩
    unfold withRoots
    dsimp only
    split <;> simp
  · exact ⟨rfl, Nat.le_succ _⟩
theorem addBig_len (k r w : Nat) : (s.addBig k r w).objs.length = s.objs.length + 1 ∧ (s.addBig k r w).roots = s.roots := ⟨by unfold addBig; simp, rfl⟩
theorem alloc_len (k r w : Int) : (s.alloc k r w).1.objs.length ≤ s.objs.length + 1 ∧ (s.alloc k r w).1.roots = s.roots := by
  unfold alloc
  split
  · split
    · unfold block
      have h1 : (s.block1 (2 + r.toNat + w.toNat)).objs.length = s.objs.length ∧ (s.block1 (2 + r.toNat + w.toNat)).roots = s.roots := by
        unfold block1
        split
        · exact collect_len
        · exact ⟨rfl, rfl⟩
      unfold block2
      generalize hg : s.block1 (2 + r.toNat + w.toNat) = g at h1
      obtain ⟨g1, g2⟩ := h1
      split
      · split
        · exact ⟨by show g.objs.length ≤ _; omega, g2⟩
        · have := addBig_len (s := g.become ((g.limit - g.large - (2 + r.toNat + w.toNat)) / 2)) k.toNat r.toNat w.toNat
          have h2 := become_len (s := g) ((g.limit - g.large - (2 + r.toNat + w.toNat)) / 2)
          exact ⟨by rw [this.1, h2.1]; omega, this.2.trans (h2.2.trans g2)⟩
      · have := addBig_len (s := g) k.toNat r.toNat w.toNat
        exact ⟨by rw [this.1]; omega, this.2.trans g2⟩
    · have h1 : (s.small1 (1 + r.toNat + w.toNat)).objs.length = s.objs.length ∧ (s.small1 (1 + r.toNat + w.toNat)).roots = s.roots := by
        unfold small1
        split
        · exact ⟨(fit_len _).1.trans coll_len.1, (fit_len _).2.trans coll_len.2⟩
        · exact ⟨rfl, rfl⟩
      generalize s.small1 (1 + r.toNat + w.toNat) = g at h1
      unfold small2
      split
      · exact ⟨by show g.objs.length ≤ _; omega, h1.2⟩
      · refine ⟨?_, h1.2⟩
        unfold addSmall
        simp
        omega
  · exact ⟨by show s.objs.length ≤ _; omega, rfl⟩
theorem atF_lt (v : s.Inv) (n : Int) : (s.atF n).1 < 18446744073709551616 := by
  unfold atF
  cases h : s.hand n with
  | none => exact (by omega : (0 : Nat) < 18446744073709551616)
  | some id => exact ref_lt v (hand_here v h)
theorem become_lim (n : Nat) : (s.become n).limit = s.limit := by unfold become; split <;> rfl
theorem fit_lim (n : Nat) : (s.fit n).limit = s.limit := by
  unfold fit
  split
  · split
    · exact become_lim _
    · rfl
  · split
    · exact become_lim _
    · rfl
theorem collect_lim : s.collect.limit = s.limit := fit_lim (s := s.collection) 0
theorem resize_lim (n : Int) : (s.resize n).1.limit = s.limit := by
  unfold resize
  split
  · rfl
  · split
    · rfl
    · exact become_lim (s := s.collection) _
theorem setF_lim (r : Nat) (i : Int) (x : Nat) : (s.setF r i x).1.limit = s.limit := by
  unfold setF
  split
  · rfl
  · split
    · rfl
    · split
      · split <;> rfl
      · rfl
theorem setBytesF_lim (r : Nat) (f : Int) (cs : List Nat) : (s.setBytesF r f cs).1.limit = s.limit := by unfold setBytesF; split <;> rfl
theorem putF_lim (n : Int) (r : Nat) : (s.putF n r).1.limit = s.limit := by
  unfold putF
  split
  · rfl
  · split <;> rfl
theorem dropF_lim (n : Int) : (s.dropF n).1.limit = s.limit := by unfold dropF; split <;> rfl
theorem rootF_lim (r : Nat) : (s.rootF r).1.limit = s.limit := by unfold rootF; split <;> rfl
theorem alloc_lim (k r w : Int) : (s.alloc k r w).1.limit = s.limit := by
  unfold alloc
  split
  · split
    · unfold block
      have h1 : (s.block1 (2 + r.toNat + w.toNat)).limit = s.limit := by
        unfold block1
        split
        · exact collect_lim
        · rfl
      generalize s.block1 (2 + r.toNat + w.toNat) = g at h1
      unfold block2
      split
      · split
        · exact h1
        · exact (become_lim (s := g) _).trans h1
      · exact h1
    · have h1 : (s.small1 (1 + r.toNat + w.toNat)).limit = s.limit := by
        unfold small1
        split
        · exact fit_lim (s := s.collection) _
        · rfl
      generalize s.small1 (1 + r.toNat + w.toNat) = g at h1
      unfold small2
      split
      · exact h1
      · exact h1
  · rfl
/-- The slots grow no faster than the objects. -/
def RzI (s : RS) : Prop := -9223372036854775808 ≤ s.resz ∧ s.resz < 9223372036854775808
def Sl2 (t s : RS) : Prop := t.slots.length + s.objs.length ≤ s.slots.length + t.objs.length ∧ (RzI s → RzI t)
/-- The limit, and as many objects as slots. -/
def Lim (l : Int) (s : RS) : Prop := l = ((s.limit : Nat) : Int) ∧ s.slots.length < s.objs.length ∧ RzI s
theorem Lim.of {t : RS} {l : Int} (h1 : t.limit = s.limit) (h2 : Sl2 t s) (h : Lim l s) : Lim l t := ⟨by rw [h1]; exact h.1, by have := h.2.1; have := h2.1; omega, h2.2 h.2.2⟩
theorem Sl2.refl (s : RS) : Sl2 s s := ⟨Nat.le_refl _, _root_.id⟩
theorem Sl2.trans {t u : RS} (h : Sl2 t s) (k : Sl2 u t) : Sl2 u s := ⟨by have := h.1; have := k.1; omega, fun q => k.2 (h.2 q)⟩
theorem Sl2.eq {t : RS} (h1 : t.slots = s.slots) (h2 : t.objs.length = s.objs.length) (h3 : t.resz = s.resz) : Sl2 t s := ⟨by rw [h1, h2]; exact Nat.le_refl _, fun q => by unfold RzI; rw [h3]; exact q⟩
theorem wrap_i64_in (x : Int) : -9223372036854775808 ≤ IntKind.wrap .i64 x ∧ IntKind.wrap .i64 x < 9223372036854775808 := by
  rw [wrap_i64_eq]
  split <;> omega
theorem become_sl (n : Nat) : Sl2 (s.become n) s := by
  unfold become
  split
  · exact Sl2.refl _
  · exact ⟨Nat.le_refl _, fun _ => wrap_i64_in _⟩
theorem fit_sl (n : Nat) : Sl2 (s.fit n) s := by
  unfold fit
  split
  · split
    · exact become_sl _
    · exact Sl2.refl _
  · split
    · exact become_sl _
    · exact Sl2.refl _
theorem coll_sl : Sl2 s.collection s := ⟨by unfold collection; simp, _root_.id⟩
theorem collect_sl : Sl2 s.collect s := coll_sl.trans (fit_sl (s := s.collection) 0)
theorem resize_sl (n : Int) : Sl2 (s.resize n).1 s := by
  unfold resize
  split
  · exact Sl2.refl _
  · split
    · exact coll_sl
    · exact coll_sl.trans (become_sl (s := s.collection) _)
theorem setObj_sl (id : Nat) (o : RObj) : Sl2 (s.setObj id o) s := Sl2.eq rfl (setObj_len id o).1 rfl
theorem setF_sl (r : Nat) (i : Int) (x : Nat) : Sl2 (s.setF r i x).1 s := by
  unfold setF
  split
  · exact Sl2.refl _
  · split
    · exact Sl2.refl _
    · split
      · split
        · exact Sl2.refl _
        · exact setObj_sl _ _
      · exact setObj_sl _ _
theorem setBytesF_sl (r : Nat) (f : Int) (cs : List Nat) : Sl2 (s.setBytesF r f cs).1 s := by
  unfold setBytesF
  split
  · exact setObj_sl _ _
  · exact Sl2.refl _
theorem putF_sl (n : Int) (r : Nat) : Sl2 (s.putF n r).1 s := by
  unfold putF
  split
  · exact Sl2.refl _
  · split <;> exact Sl2.refl _
theorem dropF_sl (n : Int) : Sl2 (s.dropF n).1 s := by unfold dropF; split <;> exact Sl2.refl _
theorem rootF_sl (r : Nat) : Sl2 (s.rootF r).1 s := by unfold rootF; split <;> exact Sl2.refl _
theorem addBig_sl (k r w : Nat) : Sl2 (s.addBig k r w) s := by
  refine ⟨?_, _root_.id⟩
  unfold addBig
  dsimp only
  split <;> simp <;> omega
theorem addSmall_sl (k r w : Nat) : Sl2 (s.addSmall k r w) s := ⟨by unfold addSmall; simp, _root_.id⟩
theorem alloc_sl (k r w : Int) : Sl2 (s.alloc k r w).1 s := by
  unfold alloc
  split
  · split
    · unfold block
      have h1 : Sl2 (s.block1 (2 + r.toNat + w.toNat)) s := by
        unfold block1
        split
        · exact collect_sl
        · exact Sl2.refl _
      generalize s.block1 (2 + r.toNat + w.toNat) = g at h1
      unfold block2
      split
      · split
        · exact h1
        · exact h1.trans ((become_sl (s := g) _).trans (addBig_sl _ _ _))
      · exact h1.trans (addBig_sl _ _ _)
    · have h1 : Sl2 (s.small1 (1 + r.toNat + w.toNat)) s := by
        unfold small1
        split
        · exact coll_sl.trans (fit_sl (s := s.collection) _)
        · exact Sl2.refl _
      generalize s.small1 (1 + r.toNat + w.toNat) = g at h1
      unfold small2
      split
      · exact h1
      · exact h1.trans (addSmall_sl _ _ _)
  · exact Sl2.refl _
theorem collect_lm {l : Int} (h : Lim l s) : Lim l s.collect := Lim.of (collect_lim ) (collect_sl ) h
theorem resize_lm {n : Int} {l : Int} (h : Lim l s) : Lim l (s.resize n).1 := Lim.of (resize_lim n) (resize_sl n) h
theorem setF_lm {r : Nat} {i : Int} {x : Nat} {l : Int} (h : Lim l s) : Lim l (s.setF r i x).1 := Lim.of (setF_lim r i x) (setF_sl r i x) h
theorem setBytesF_lm {r : Nat} {f : Int} {cs : List Nat} {l : Int} (h : Lim l s) : Lim l (s.setBytesF r f cs).1 := Lim.of (setBytesF_lim r f cs) (setBytesF_sl r f cs) h
theorem putF_lm {n : Int} {r : Nat} {l : Int} (h : Lim l s) : Lim l (s.putF n r).1 := Lim.of (putF_lim n r) (putF_sl n r) h
theorem dropF_lm {n : Int} {l : Int} (h : Lim l s) : Lim l (s.dropF n).1 := Lim.of (dropF_lim n) (dropF_sl n) h
theorem rootF_lm {r : Nat} {l : Int} (h : Lim l s) : Lim l (s.rootF r).1 := Lim.of (rootF_lim r) (rootF_sl r) h
theorem alloc_lm {k r w : Int} {l : Int} (h : Lim l s) : Lim l (s.alloc k r w).1 := Lim.of (alloc_lim k r w) (alloc_sl k r w) h
end
end RS
end Go.Ev
set_option linter.all false
set_option maxRecDepth 100000
namespace Go.Ev
open Go.Proofs
/-- An object as it must be. -/
structure NodeD where
  kind : Nat
  refs : List Nat
  raws : List Nat
namespace RS
/-- The same graph: each object that is there is as its node says. -/
structure Shd (s : RS) (nd : List NodeD) : Prop where
  len : nd.length = s.objs.length
  at_ : ∀ id, s.here id → nd[id]? = some ⟨(s.obj id).kind, (s.obj id).refs, (s.obj id).raws⟩
/-- Nothing new, nothing changed: some may be gone. -/
structure Sub (t s : RS) : Prop where
  len : t.objs.length = s.objs.length
  roots : t.roots = s.roots
  at_ : ∀ id, t.here id → s.here id ∧ (t.obj id).kind = (s.obj id).kind ∧ (t.obj id).refs = (s.obj id).refs ∧ (t.obj id).raws = (s.obj id).raws
section
variable {s t u : RS} {nd : List NodeD}
theorem Sub.refl (s : RS) : Sub s s := ⟨rfl, rfl, fun _ h => ⟨h, rfl, rfl, rfl⟩⟩
theorem Sub.trans (a : Sub u t) (b : Sub t s) : Sub u s :=
  ⟨a.len.trans b.len, a.roots.trans b.roots, fun id h => by
    obtain ⟨h1, h2, h3, h4⟩ := a.at_ id h
    obtain ⟨k1, k2, k3, k4⟩ := b.at_ id h1
    exact ⟨k1, h2.trans k2, h3.trans k3, h4.trans k4⟩⟩
theorem Sub.of (e1 : t.objs = s.objs) (e2 : t.small = s.small) (e3 : t.slots = s.slots) (e4 : t.roots = s.roots) : Sub t s := by
  have eo : ∀ id, t.obj id = s.obj id := fun id => by unfold obj; rw [e1]
  exact ⟨by rw [e1], e4, fun id h => ⟨by unfold here at h ⊢; rw [← e2, ← e3]; exact h, by rw [eo], by rw [eo], by rw [eo]⟩⟩
theorem Shd.sub (h : Shd s nd) (k : Sub t s) : Shd t nd := ⟨h.len.trans k.len.symm, fun id hid => by
  obtain ⟨h1, h2, h3, h4⟩ := k.at_ id hid
  rw [h2, h3, h4]
  exact h.at_ id h1⟩
theorem Sub.collection (v : s.Inv) : Sub s.collection s := ⟨collection_len s, rfl, fun id h => by
  have h1 := (collection_here v).1 h
  obtain ⟨k1, k2, k3, _⟩ := collection_kind v h1
  exact ⟨(GcOk.at v _).here h1, k1, k2, k3⟩⟩
theorem Sub.become (n : Nat) : Sub (s.become n) s := by
  unfold RS.become
  split
  · exact Sub.refl s
  · exact Sub.of rfl rfl rfl rfl
theorem Sub.fit (n : Nat) : Sub (s.fit n) s := by
  unfold RS.fit
  split
  · split
    · exact Sub.become _
    · exact Sub.refl s
  · split
    · exact Sub.become _
    · exact Sub.refl s
theorem Sub.collect (v : s.Inv) : Sub s.collect s := (Sub.fit 0).trans (Sub.collection v)
theorem Sub.resize (v : s.Inv) (n : Int) : Sub (s.resize n).1 s := by
  unfold RS.resize
  split
  · exact Sub.refl s
  · split
    · exact Sub.collection v
    · exact (Sub.become _).trans (Sub.collection v)
/-- A new object. -/
structure New (t s : RS) (k r w ref : Nat) : Prop where
  objs : ∃ b pl, t.objs = s.objs ++ [mkO k r w b pl]
  roots : t.roots = s.roots
  here : ∀ id, t.here id ↔ id = s.objs.length ∨ s.here id
  ref : t.ref s.objs.length = ref
theorem New.small (v : s.Inv) (k r w : Nat) : New (s.addSmall k r w) s k r w s.used := by
  have h1 := v.ob
  refine ⟨⟨_, _, rfl⟩, rfl, fun id => ?_, ?_⟩
  · show (id ∈ s.small ++ [s.objs.length] ∨ (id ≠ 0 ∧ id ∈ s.slots)) ↔ _
    rw [List.mem_append, List.mem_singleton]
    exact ⟨fun h => h.elim (fun h => h.elim (fun h => .inr (.inl h)) .inl) fun h => .inr (.inr h), fun h => h.elim (fun h => .inl (.inr h)) fun h => h.elim (fun h => .inl (.inl h)) .inr⟩
  · have eo : (s.addSmall k r w).obj s.objs.length = mkO k r w false s.used := by unfold obj addSmall; simp
    unfold RS.ref
    rw [if_neg (by omega), eo]
    rfl
theorem New.big (v : s.Inv) (k r w : Nat) : New (s.addBig k r w) s k r w (top + freeSlot s.slots) := by
  have h1 := v.ob
  obtain ⟨f1, f2, f3⟩ := freeSlot_facts s.slots
  refine ⟨⟨_, _, rfl⟩, rfl, fun id => ?_, ?_⟩
  · show (id ∈ s.small ∨ (id ≠ 0 ∧ id ∈ (s.addBig k r w).slots)) ↔ _
    have e : (id ≠ 0 ∧ id ∈ (s.addBig k r w).slots) ↔ id = s.objs.length ∨ (id ≠ 0 ∧ id ∈ s.slots) := by
      constructor
      · rintro ⟨h0, h⟩
        obtain ⟨i, hi⟩ := List.mem_iff_getElem?.1 h
        rw [addBig_slot] at hi
        split at hi
        · exact .inl (Option.some.inj hi).symm
        · exact .inr ⟨h0, List.mem_of_getElem? hi⟩
      · rintro (h | ⟨h0, h⟩)
        · refine ⟨by omega, ?_⟩
          exact List.mem_of_getElem? (i := freeSlot s.slots) (by rw [addBig_slot, if_pos rfl, h])
        · refine ⟨h0, ?_⟩
          obtain ⟨i, hi⟩ := List.mem_iff_getElem?.1 h
          have hil := (List.getElem?_eq_some_iff.1 hi).1
          refine List.mem_of_getElem? (i := i) ?_
          rw [addBig_slot, if_neg, hi]
          intro e
          subst e
          rw [f2 hil] at hi
          exact h0 (Option.some.inj hi).symm
    rw [e]
    exact ⟨fun h => h.elim (fun h => .inr (.inl h)) fun h => h.elim .inl fun h => .inr (.inr h), fun h => h.elim (fun h => .inr (.inl h)) fun h => h.elim .inl fun h => .inr (.inr h)⟩
  · have eo : (s.addBig k r w).obj s.objs.length = mkO k r w true (freeSlot s.slots) := by unfold obj addBig; simp
    unfold RS.ref
    rw [if_neg (by omega), eo]
    rfl
theorem New.shd {k r w ref : Nat} (n : New t s k r w ref) (v : s.Inv) (h : Shd s nd) : Shd t (nd ++ [⟨k, List.replicate r 0, List.replicate w 0⟩]) := by
  obtain ⟨⟨b, pl, e⟩, _, hh, _⟩ := n
  refine ⟨by rw [List.length_append, h.len, e, List.length_append]; rfl, fun id hid => ?_⟩
  by_cases hn : id = s.objs.length
  · subst hn
    have eo : t.obj s.objs.length = mkO k r w b pl := by unfold obj; rw [e]; simp
    rw [eo, List.getElem?_append_right (by rw [h.len]; exact Nat.le_refl _), h.len, Nat.sub_self]
    rfl
  · have h1 := ((hh id).1 hid).resolve_left hn
    have hlt := v.here_lt h1
    have eo : t.obj id = s.obj id := by unfold obj; rw [e, List.getD_eq_getElem?_getD, List.getElem?_append_left hlt, ← List.getD_eq_getElem?_getD]
    rw [eo, List.getElem?_append_left (by rw [h.len]; exact hlt)]
    exact h.at_ id h1
/-- What Alloc comes to: refused by the shape; full, at most something gone; one more. -/
theorem alloc_cases (v : s.Inv) (k r w : Int) : (¬ Shape k r w ∧ s.alloc k r w = (s, 0, 34)) ∨
    (Shape k r w ∧ ∃ t, Sub t s ∧ t.Inv ∧ (s.alloc k r w = (t, 0, 31) ∨ ∃ t' ref, s.alloc k r w = (t', ref, 0) ∧ New t' t k.toNat r.toNat w.toNat ref)) := by
  unfold alloc
  split
  · rename_i hs
    refine .inr ⟨hs, ?_⟩
    split
    · unfold block
      have v1 := v.block1 (2 + r.toNat + w.toNat)
      have s1 : Sub (s.block1 (2 + r.toNat + w.toNat)) s := by
        unfold block1
        split
        · exact Sub.collect v
        · exact Sub.refl s
      generalize s.block1 (2 + r.toNat + w.toNat) = g at v1 s1
      unfold block2
      split
      · split
        · exact ⟨g, s1, v1, .inl rfl⟩
        · rename_i hn
          simp only [not_or, Nat.not_lt] at hn
          obtain ⟨n1, n2, n3⟩ := hn
          have v2 : (g.become ((g.limit - g.large - (2 + r.toNat + w.toNat)) / 2)).Inv := v1.become n2 (by omega) n3
          refine ⟨_, (Sub.become _).trans s1, v2, .inr ⟨_, _, rfl, ?_⟩⟩
          have := New.big v2 k.toNat r.toNat w.toNat
          have es : (g.become ((g.limit - g.large - (2 + r.toNat + w.toNat)) / 2)).slots = g.slots := by unfold become; split <;> rfl
          rw [es] at this
          exact this
      · exact ⟨g, s1, v1, .inr ⟨_, _, rfl, New.big v1 _ _ _⟩⟩
    · have v1 := v.small1 (1 + r.toNat + w.toNat)
      have s1 : Sub (s.small1 (1 + r.toNat + w.toNat)) s := by
        unfold small1
        split
        · exact (Sub.fit _).trans (Sub.collection v)
        · exact Sub.refl s
      generalize s.small1 (1 + r.toNat + w.toNat) = g at v1 s1
      unfold small2
      split
      · exact ⟨g, s1, v1, .inl rfl⟩
      · exact ⟨g, s1, v1, .inr ⟨_, _, rfl, New.small v1 _ _ _⟩⟩
  · exact .inl ⟨by assumption, rfl⟩
/-- An object's fields are others. -/
theorem Shd.setObj (v : s.Inv) (h : Shd s nd) {id : Nat} (hid : s.here id) {o : RObj} (hk : o.kind = (s.obj id).kind) : Shd (s.setObj id o) (nd.set id ⟨o.kind, o.refs, o.raws⟩) := by
  have hlt := v.here_lt hid
  refine ⟨by rw [List.length_set, h.len]; unfold RS.setObj; simp, fun x hx => ?_⟩
  have hx : s.here x := hx
  by_cases e : x = id
  · subst e
    have eo : (s.setObj x o).obj x = o := by unfold obj RS.setObj; simp [hlt]
    rw [eo, List.getElem?_set_self (by rw [h.len]; exact hlt)]
  · have eo : (s.setObj id o).obj x = s.obj x := by unfold obj RS.setObj; rw [List.getD_eq_getElem?_getD, List.getElem?_set_ne (Ne.symm e), ← List.getD_eq_getElem?_getD]
    rw [eo, List.getElem?_set_ne (Ne.symm e)]
    exact h.at_ x hx
theorem Shd.roots (h : Shd s nd) (l : List (Option Nat)) : Shd (s.withRoots l) nd := ⟨h.len, h.at_⟩
/-- A handle taken round. -/
def handN (s : RS) (a : Int) : Nat := if s.roots.length = 0 then 0 else 1 + (a % (s.roots.length : Nat)).toNat
theorem handN_le (a : Int) : s.handN a ≤ s.roots.length := by
  unfold handN
  split
  · omega
  · have := Int.emod_lt_of_pos a (b := ((s.roots.length : Nat) : Int)) (by omega)
    omega
/-- A handle that holds something: its place, what At says. -/
theorem hand_at {a : Int} {n id : Nat} (v : s.Inv) (h : s.hand (n : Int) = some id) : 1 ≤ n ∧ n ≤ s.roots.length ∧ s.roots[n - 1]? = some (some id) ∧ (id = 0 ∨ s.here id) ∧ s.atF (n : Int) = (s.ref id, 0) := by
  have h1 := hand_here v h
  have h2 : s.atF (n : Int) = (s.ref id, 0) := by unfold atF; rw [h]
  unfold hand at h
  split at h
  · rename_i hb
    refine ⟨by omega, by omega, ?_, h1, h2⟩
    have e : ((n : Int) - 1).toNat = n - 1 := by omega
    rw [e, List.getD_eq_getElem?_getD] at h
    cases hr : s.roots[n - 1]? with
    | none => rw [hr] at h; cases h
    | some o => rw [hr] at h; obtain rfl : o = some id := h; rfl
  · cases h
end
end RS
end Go.Ev
set_option linter.all false
set_option maxRecDepth 100000
namespace Go.Ev
open Go.Proofs
namespace RS
section
variable {s : RS}
theorem setF_ref (v : s.Inv) {id t k : Nat} (hh : s.here id) (h0 : id ≠ 0) (ht : t = 0 ∨ s.here t) (hk : k < (s.obj id).refs.length) : s.setF (s.ref id) (k : Int) (s.ref t) = (s.setObj id { s.obj id with refs := (s.obj id).refs.set k t }, 0) := by
  have e := ident_ref v (id := id) (.inr hh)
  have e2 := ident_ref v ht
  unfold setF
  rw [e, e2, if_neg h0, if_neg (by omega), if_pos (by omega), if_neg, Int.toNat_natCast]
  rintro ⟨h1, h2⟩
  subst h2
  exact h1 rfl
theorem setF_raw (v : s.Inv) {id k x : Nat} (hh : s.here id) (h0 : id ≠ 0) (hk : k < (s.obj id).raws.length) : s.setF (s.ref id) (((s.obj id).refs.length + k : Nat) : Int) x = (s.setObj id { s.obj id with raws := (s.obj id).raws.set k x }, 0) := by
  have e := ident_ref v (id := id) (.inr hh)
  unfold setF
  rw [e, if_neg h0, if_neg (by omega), if_neg (by omega), Int.toNat_natCast, Nat.add_sub_cancel_left]
theorem getF_ref (v : s.Inv) {id k r : Nat} (hh : s.here id) (h0 : id ≠ 0) (hk : (s.obj id).refs[k]? = some r) : s.getF (s.ref id) (k : Int) = (s.ref r, 0) := by
  have hkl := (List.getElem?_eq_some_iff.1 hk).1
  have e := ident_ref v (id := id) (.inr hh)
  unfold getF
  rw [e, if_neg h0, if_pos ⟨by omega, by rw [enc_flds_len]; omega⟩, Int.toNat_natCast]
  have : (s.enc id).flds.getD k 0 = s.ref r := by
    rw [List.getD_eq_getElem?_getD]
    unfold AObj.flds enc
    rw [List.getElem?_append_left (by rw [List.length_map]; exact hkl), List.getElem?_map, hk]
    rfl
  rw [this]
theorem getF_raw (v : s.Inv) {id k r : Nat} (hh : s.here id) (h0 : id ≠ 0) (hk : (s.obj id).raws[k]? = some r) : s.getF (s.ref id) (((s.obj id).refs.length + k : Nat) : Int) = (r, 0) := by
  have hkl := (List.getElem?_eq_some_iff.1 hk).1
  have e := ident_ref v (id := id) (.inr hh)
  unfold getF
  rw [e, if_neg h0, if_pos ⟨by omega, by rw [enc_flds_len]; omega⟩, Int.toNat_natCast]
  have : (s.enc id).flds.getD ((s.obj id).refs.length + k) 0 = r := by
    rw [List.getD_eq_getElem?_getD]
    unfold AObj.flds enc
    rw [List.getElem?_append_right (by rw [List.length_map]; omega), List.length_map, Nat.add_sub_cancel_left, hk]
    rfl
  rw [this]
theorem good_ref (v : s.Inv) {r : Nat} (hr : r = 0 ∨ s.here r) : s.goodR (s.ref r) = true := by
  unfold goodR
  rw [ident_ref v hr]
  by_cases h : r = 0
  · subst h; rfl
  · exact decide_eq_true (.inr h)
def lsum (s : RS) (l : List Nat) : Nat := (l.map fun id => s.size id + 1).sum
theorem lsum_snoc (l : List Nat) (x : Nat) : s.lsum (l ++ [x]) = s.lsum l + (s.size x + 1) := by unfold lsum; simp
end
end RS
end Go.Ev
set_option linter.all false
set_option maxRecDepth 100000
namespace Go.Ev
open Go.Proofs
namespace RS
section
variable {s : RS}
theorem fit_room (v : s.Inv) {n : Nat} (h : 2 * (s.used + n) ≤ s.limit - s.large) : s.used + n ≤ (s.fit n).half := by
  obtain ⟨w1, w2, w3⟩ := want_facts (s.used + n)
  have hb : ∀ m, (s.become m).half = m := fun m => by unfold become; split <;> first | (rename_i e; exact e.symm) | rfl
  have i1 := v.h2
  unfold fit
  split
  · split
    · rw [hb]; omega
    · omega
  · split
    · rw [hb]; omega
    · omega
theorem fit_same (n : Nat) : (s.fit n).used = s.used ∧ (s.fit n).large = s.large ∧ (s.fit n).limit = s.limit := by
  have hb : ∀ m, (s.become m).used = s.used ∧ (s.become m).large = s.large ∧ (s.become m).limit = s.limit := fun m => by unfold become; split <;> exact ⟨rfl, rfl, rfl⟩
  unfold fit
  split
  · split
    · exact hb _
    · exact ⟨rfl, rfl, rfl⟩
  · split
    · exact hb _
    · exact ⟨rfl, rfl, rfl⟩
/-- P3.9's rule, of the live words. -/
def Room (s : RS) (r w : Nat) : Prop :=
  if 1 + r + w ≤ 64 then 2 * (s.collection.used + (1 + r + w)) ≤ s.limit - s.collection.large ∧ s.collection.large ≤ s.limit
  else s.collection.large + (1 + r + w) + 1 + 2 * max s.collection.used 64 ≤ s.limit
theorem alloc_room (v : s.Inv) {k r w : Int} (hs : Shape k r w) : (s.alloc k r w).2.2 = 0 ↔ s.Room r.toNat w.toNat := by
  have c1 := collection_used v
  have c2 := collection_large v
  have vc := v.collection
  have i1 := v.h1; have i2 := v.h2; have i3 := v.u2
  have j2 := vc.h2; have j3 := vc.u2; have j1 := vc.h1
  have el : s.collection.limit = s.limit := rfl
  unfold alloc Room
  rw [if_pos hs]
  by_cases hn : 64 < 1 + r.toNat + w.toNat
  · rw [if_pos hn, if_neg (by omega)]
    unfold block
    generalize hg : s.block1 (2 + r.toNat + w.toNat) = g
    have hv : g.Inv := hg ▸ v.block1 _
    have hl : g.limit = s.limit ∧ ((g = s ∧ ¬ (s.limit < 2 * s.half + s.large + (2 + r.toNat + w.toNat))) ∨ (g.used = s.collection.used ∧ g.large = s.collection.large)) := by
      rw [← hg]
      unfold block1
      split
      · obtain ⟨f1, f2, f3⟩ := fit_same (s := s.collection) 0
        exact ⟨f3, .inr ⟨f1, f2⟩⟩
      · rename_i hc
        exact ⟨rfl, .inl ⟨rfl, fun h => hc (.inl h)⟩⟩
    have g1 := hv.h1; have g2 := hv.h2; have g3 := hv.u2
    unfold block2
    obtain ⟨hl1, hl2⟩ := hl
    rcases hl2 with ⟨e, hc⟩ | ⟨e1, e2⟩
    · subst e
      rw [if_neg hc]
      exact ⟨fun _ => by omega, fun _ => rfl⟩
    · split
      · split
        · exact ⟨fun h => by exact absurd h (by show ¬ ((31 : Int) = 0); omega), fun h => by omega⟩
        · exact ⟨fun _ => by omega, fun _ => rfl⟩
      · exact ⟨fun _ => by omega, fun _ => rfl⟩
  · rw [if_neg hn, if_pos (by omega)]
    unfold small1
    split
    · obtain ⟨f1, f2, f3⟩ := fit_same (s := s.collection) (1 + r.toNat + w.toNat)
      have vf := vc.fit (k := 1 + r.toNat + w.toNat)
      have q2 := vf.h2
      have room := fit_room vc (n := 1 + r.toNat + w.toNat)
      unfold small2
      split
      · exact ⟨fun h => by exact absurd h (by show ¬ ((31 : Int) = 0); omega), fun h => by omega⟩
      · exact ⟨fun _ => by omega, fun _ => rfl⟩
    · unfold small2
      rw [if_neg (by omega)]
      exact ⟨fun _ => by omega, fun _ => rfl⟩
end
end RS
end Go.Ev
set_option linter.all false
set_option maxRecDepth 100000
namespace Go.Ev
open Go.Proofs
namespace RS
theorem sum_pick {f : Nat → Nat} : ∀ (m l : List Nat), l.Nodup → (∀ x ∈ l, x ∈ m) → (∀ x ∈ l, m.count x = 1) → (m.map fun x => if x ∈ l then f x else 0).sum = (l.map f).sum := by
  intro m
  induction m with
  | nil =>
    intro l _ h _
    cases l with
    | nil => rfl
    | cons y l => exact absurd (h y (List.mem_cons_self ..)) (by simp)
  | cons y m ih =>
    intro l nd h hc
    by_cases hy : y ∈ l
    · have nd' := nd.erase y
      have h' : ∀ x ∈ l.erase y, x ∈ m := fun x hx => by
        have hne : x ≠ y := fun e => (List.Nodup.not_mem_erase nd) (e ▸ hx)
        exact (List.mem_cons.1 (h x (List.mem_of_mem_erase hx))).resolve_left hne
      have hc' : ∀ x ∈ l.erase y, m.count x = 1 := fun x hx => by
        have hne : x ≠ y := fun e => (List.Nodup.not_mem_erase nd) (e ▸ hx)
        have := hc x (List.mem_of_mem_erase hx)
        rwa [List.count_cons_of_ne (Ne.symm hne)] at this
      have e := ih (l.erase y) nd' h' hc'
      have hym : y ∉ m := fun hm => by
        have h1 := hc y hy
        rw [List.count_cons_self] at h1
        have := List.count_pos_iff.2 hm
        omega
      have e2 : (m.map fun x => if x ∈ l then f x else 0) = (m.map fun x => if x ∈ l.erase y then f x else 0) := List.map_congr_left fun x hx => by
        have hne : x ≠ y := fun e => hym (e ▸ hx)
        have q := List.mem_erase_of_ne (l := l) hne
        by_cases hl : x ∈ l
        · rw [if_pos hl, if_pos (q.2 hl)]
        · rw [if_neg hl, if_neg fun h => hl (q.1 h)]
      rw [List.map_cons, List.sum_cons, if_pos hy, e2, e]
      have p := (List.perm_cons_erase hy).map f
      rw [p.sum_nat]
      simp
    · rw [List.map_cons, List.sum_cons, if_neg hy, Nat.zero_add]
      refine ih l nd (fun x hx => (List.mem_cons.1 (h x hx)).resolve_left fun e => hy (e ▸ hx)) fun x hx => ?_
      have hne : x ≠ y := fun e => hy (e ▸ hx)
      have := hc x hx
      rwa [List.count_cons_of_ne (Ne.symm hne)] at this
theorem count_one : ∀ (l : List Nat) (x : Nat), (∀ i j : Nat, l[i]? = some x → l[j]? = some x → i = j) → x ∈ l → l.count x = 1 := by
  intro l
  induction l with
  | nil => intro x _ h; simp at h
  | cons y l ih =>
    intro x hu hm
    by_cases e : y = x
    · subst e
      rw [List.count_cons_self]
      have : y ∉ l := fun h => by
        obtain ⟨i, hi⟩ := List.mem_iff_getElem?.1 h
        have := hu 0 (i + 1) rfl (by simpa using hi)
        omega
      rw [List.count_eq_zero.2 this]
    · rw [List.count_cons_of_ne e]
      refine ih x (fun i j hi hj => ?_) ((List.mem_cons.1 hm).resolve_left fun h => e h.symm)
      have := hu (i + 1) (j + 1) (by simpa using hi) (by simpa using hj)
      omega
theorem collection_lsum {s : RS} (v : s.Inv) : s.collection.large = s.lsum s.gcEnd.line := by
  have k := GcOk.at v s.objs.length
  show (s.slots.map fun id => if id ∈ s.gcEnd.line then s.size id + 1 else 0).sum = _
  unfold lsum
  refine sum_pick (f := fun id => s.size id + 1) s.slots s.gcEnd.line (List.nodup_append.1 k.nd).2.1 (fun x hx => (k.ln x hx).2) fun x hx => ?_
  obtain ⟨h0, hm⟩ := k.ln x hx
  exact count_one _ _ (fun i j hi hj => (v.sl i x hi h0).2.2.2.symm.trans (v.sl j x hj h0).2.2.2) hm
end RS
end Go.Ev
set_option linter.all false
set_option maxRecDepth 100000
namespace Go.Ev
open Go.Proofs
theorem byteAt_bit (raws : List Nat) (j i : Nat) : (byteAt raws j).testBit i = (decide (i < 8) && (raws.getD (j / 8) 0).testBit (j % 8 * 8 + i)) := by
  unfold byteAt
  rw [show (256 : Nat) = 2 ^ 8 from rfl, Nat.testBit_mod_two_pow, Nat.testBit_div_two_pow, Nat.add_comm i]
theorem byteAt_lt (raws : List Nat) (j : Nat) : byteAt raws j < 256 := Nat.mod_lt _ (by omega)
theorem byteAt_put {raws : List Nat} {j c : Nat} (hj : j / 8 < raws.length) (hc : c < 256) (k : Nat) : byteAt (putByte raws j c) k = if k = j then c else byteAt raws k := by
  have hcb : ∀ i, 8 ≤ i → c.testBit i = false := testBit_lt (k := 8) hc
  apply Nat.eq_of_testBit_eq
  intro i
  rw [byteAt_bit]
  unfold putByte
  rw [List.getD_eq_getElem?_getD]
  by_cases hw : k / 8 = j / 8
  · rw [hw, List.getElem?_set_self hj]
    show (decide (i < 8) && (putW (raws.getD (j / 8) 0) (j % 8 * 8) c).testBit (k % 8 * 8 + i)) = _
    rw [putW_bit hc]
    by_cases hk : k = j
    · subst hk
      rw [if_pos rfl, if_neg (by omega)]
      by_cases hi : i < 8
      · rw [if_pos (by omega), show k % 8 * 8 + i - k % 8 * 8 = i by omega]; simp [hi]
      · rw [hcb i (by omega)]; simp [hi]
    · rw [if_neg hk, byteAt_bit, hw]
      by_cases hi : i < 8
      · by_cases hlt : k % 8 < j % 8
        · rw [if_pos (by omega)]
        · rw [if_neg (by omega), if_neg (by omega)]
      · simp [hi]
  · have hk : k ≠ j := fun e => hw (by rw [e])
    rw [if_neg hk, List.getElem?_set_ne (Ne.symm hw), byteAt_bit, List.getD_eq_getElem?_getD]
theorem putByte_word {raws : List Nat} {j c : Nat} (hj : 8 ≤ j) : (putByte raws j c).getD 0 0 = raws.getD 0 0 := by
  unfold putByte
  rw [List.getD_eq_getElem?_getD, List.getElem?_set_ne (by omega), ← List.getD_eq_getElem?_getD]
theorem putBytes_word : ∀ (l : List Nat) {raws : List Nat} {j : Nat}, 8 ≤ j → (putBytes raws j l).getD 0 0 = raws.getD 0 0
  | [], _, _, _ => rfl
  | c :: l, raws, j, h => by
    show (putBytes (putByte raws j c) (j + 1) l).getD 0 0 = _
    rw [putBytes_word l (by omega), putByte_word h]
theorem putBytes_at : ∀ (l : List Nat) {raws : List Nat} {p : Nat}, p + l.length ≤ 8 * raws.length → (∀ c ∈ l, c < 256) → ∀ k, byteAt (putBytes raws p l) k = if p ≤ k ∧ k < p + l.length then l.getD (k - p) 0 else byteAt raws k
  | [], raws, p, _, _, k => by
    rw [if_neg (by rw [List.length_nil]; omega)]; rfl
  | c :: l, raws, p, h, hc, k => by
    rw [List.length_cons] at h ⊢
    show byteAt (putBytes (putByte raws p c) (p + 1) l) k = _
    rw [putBytes_at l (by rw [putByte_len]; omega) (fun x hx => hc x (List.mem_cons_of_mem _ hx)), byteAt_put (by omega) (hc c (List.mem_cons_self ..))]
    by_cases hk : k = p
    · subst hk
      rw [if_neg (by omega), if_pos rfl, if_pos (by omega), Nat.sub_self]
      rfl
    · by_cases h1 : p + 1 ≤ k ∧ k < p + 1 + l.length
      · rw [if_pos h1, if_pos (by omega), show k - p = (k - (p + 1)) + 1 by omega, List.getD_cons_succ]
      · rw [if_neg h1, if_neg hk, if_neg (by omega)]
theorem words_ext {a b : List Nat} (hl : a.length = b.length) (ha : ∀ x ∈ a, x < 18446744073709551616) (hb : ∀ x ∈ b, x < 18446744073709551616) (h : ∀ j, j < 8 * a.length → byteAt a j = byteAt b j) : a = b := by
  apply List.ext_getElem?
  intro k
  by_cases hk : k < a.length
  · have hk2 : k < b.length := by omega
    rw [List.getElem?_eq_getElem hk, List.getElem?_eq_getElem hk2]
    congr 1
    apply Nat.eq_of_testBit_eq
    intro i
    by_cases hi : i < 64
    · have q := congrArg (fun n => n.testBit (i % 8)) (h (8 * k + i / 8) (by omega))
      simp only [byteAt_bit] at q
      rw [show (8 * k + i / 8) / 8 = k by omega, show (8 * k + i / 8) % 8 * 8 + i % 8 = i by omega, List.getD_eq_getElem?_getD, List.getD_eq_getElem?_getD, List.getElem?_eq_getElem hk, List.getElem?_eq_getElem hk2] at q
      have h8 : decide (i % 8 < 8) = true := decide_eq_true (by omega)
      rw [h8] at q
      simpa using q
    · rw [testBit_lt (k := 64) (ha _ (List.getElem_mem hk)) i (by omega), testBit_lt (k := 64) (hb _ (List.getElem_mem hk2)) i (by omega)]
  · rw [List.getElem?_eq_none (by omega), List.getElem?_eq_none (by omega)]
/-! ### A blob's words -/
def wordsN (n : Nat) : Nat := (n + 7) / 8
def Bytes8 (b : List Nat) : Prop := ∀ c ∈ b, c < 256
structure IsRaws (raws b : List Nat) : Prop where
  len : raws.length = 1 + wordsN b.length
  h0 : raws.getD 0 0 = b.length
  at_ : ∀ j, j < 8 * wordsN b.length → byteAt raws (8 + j) = b.getD j 0
  lt : ∀ x ∈ raws, x < 18446744073709551616
theorem getD_byte {b : List Nat} (h : Bytes8 b) (j : Nat) : b.getD j 0 < 256 := by
  rw [List.getD_eq_getElem?_getD]
  cases e : b[j]? with
  | none => exact (by omega : (0 : Nat) < 256)
  | some x => exact h x (List.mem_of_getElem? e)
theorem IsRaws.uniq {r r' b : List Nat} (h : IsRaws r b) (h' : IsRaws r' b) : r = r' := by
  refine words_ext (h.len.trans h'.len.symm) h.lt h'.lt fun j hj => ?_
  have hl := h.len
  by_cases h8 : j < 8
  · have e : r.getD 0 0 = r'.getD 0 0 := h.h0.trans h'.h0.symm
    unfold byteAt
    rw [show j / 8 = 0 by omega, e]
  · have := h.at_ (j - 8) (by omega)
    have k := h'.at_ (j - 8) (by omega)
    rw [show 8 + (j - 8) = j by omega] at this k
    rw [this, k]
def blobRaws (b : List Nat) : List Nat := putBytes (b.length :: List.replicate (wordsN b.length) 0) 8 b
theorem byteAt_zero (n : Nat) (m j : Nat) : byteAt (n :: List.replicate m 0) (8 + j) = 0 := by
  unfold byteAt
  rw [show (8 + j) / 8 = j / 8 + 1 by omega, List.getD_cons_succ]
  have : (List.replicate m 0).getD (j / 8) 0 = 0 := by
    rw [List.getD_eq_getElem?_getD, List.getElem?_replicate]
    split <;> rfl
  rw [this, Nat.zero_div]
theorem blobRaws_is {b : List Nat} (h8 : Bytes8 b) (hl : b.length < 18446744073709551616) : IsRaws (blobRaws b) b := by
  have hlen : (b.length :: List.replicate (wordsN b.length) 0).length = 1 + wordsN b.length := by simp; omega
  have hw : b.length ≤ 8 * wordsN b.length := by unfold wordsN; omega
  refine ⟨by unfold blobRaws; rw [putBytes_len, hlen], by unfold blobRaws; rw [putBytes_word _ (Nat.le_refl _)]; rfl, fun j hj => ?_, ?_⟩
  · unfold blobRaws
    rw [putBytes_at _ (by rw [hlen]; omega) h8]
    split
    · rw [show 8 + j - 8 = j by omega]
    · rename_i hc
      rw [byteAt_zero, List.getD_eq_getElem?_getD, List.getElem?_eq_none (by omega)]; rfl
  · refine putBytes_lt (fun x hx => ?_) h8
    rcases List.mem_cons.1 hx with e | e
    · rw [e]; exact hl
    · rw [(List.mem_replicate.1 e).2]; omega
/-! ### What Write leaves -/
def splice (b : List Nat) (p : Nat) (t : List Nat) : List Nat := (List.range (max b.length (p + t.length))).map fun j => if p ≤ j ∧ j < p + t.length then t.getD (j - p) 0 else b.getD j 0
theorem splice_len (b : List Nat) (p : Nat) (t : List Nat) : (splice b p t).length = max b.length (p + t.length) := by unfold splice; simp
theorem splice_at (b : List Nat) (p : Nat) (t : List Nat) (j : Nat) : (splice b p t).getD j 0 = if p ≤ j ∧ j < p + t.length then t.getD (j - p) 0 else b.getD j 0 := by
  rw [List.getD_eq_getElem?_getD]
  by_cases hj : j < max b.length (p + t.length)
  · unfold splice
    rw [List.getElem?_map, List.getElem?_range hj]
    rfl
  · rw [List.getElem?_eq_none (by rw [splice_len]; omega), if_neg (by omega), List.getD_eq_getElem?_getD, List.getElem?_eq_none (by omega)]
theorem splice_8 {b t : List Nat} (p : Nat) (hb : Bytes8 b) (ht : Bytes8 t) : Bytes8 (splice b p t) := fun c hc => by
  unfold splice at hc
  obtain ⟨j, _, rfl⟩ := List.mem_map.1 hc
  split
  · exact getD_byte ht _
  · exact getD_byte hb _
/-- Write in place. -/
theorem IsRaws.write {r b t : List Nat} {p : Nat} (h : IsRaws r b) (ht : Bytes8 t) (hw : wordsN (max b.length (p + t.length)) = wordsN b.length) (hl : max b.length (p + t.length) < 18446744073709551616) :
    IsRaws (putBytes (r.set 0 (max b.length (p + t.length))) (8 + p) t) (splice b p t) := by
  have hn : p + t.length ≤ 8 * wordsN b.length := by rw [← hw]; unfold wordsN; omega
  have hls : (r.set 0 (max b.length (p + t.length))).length = 1 + wordsN b.length := by rw [List.length_set]; exact h.len
  have hr0 : 0 < r.length := by rw [h.len]; omega
  refine ⟨?_, ?_, fun j hj => ?_, ?_⟩
  · rw [putBytes_len, hls, splice_len, hw]
  · rw [putBytes_word _ (by omega), splice_len, List.getD_eq_getElem?_getD, List.getElem?_set_self hr0]; rfl
  · rw [splice_len, hw] at hj
    rw [putBytes_at _ (by rw [hls]; omega) ht, splice_at]
    by_cases hc : p ≤ j ∧ j < p + t.length
    · rw [if_pos (by omega), if_pos hc, show 8 + j - (8 + p) = j - p by omega]
    · rw [if_neg (by omega), if_neg hc, ← h.at_ j hj]
      unfold byteAt
      rw [List.getD_eq_getElem?_getD, List.getElem?_set_ne (by omega), ← List.getD_eq_getElem?_getD]
  · refine putBytes_lt (fun x hx => ?_) ht
    rcases List.mem_or_eq_of_mem_set hx with e | e
    · exact h.lt x e
    · rw [e]; exact hl
/-- The same, all of it at once. -/
theorem IsRaws.over {r b c : List Nat} (h : IsRaws r b) (hc : Bytes8 c) (hw : wordsN c.length = wordsN b.length) (hbl : b.length ≤ c.length) (hl : c.length < 18446744073709551616) : IsRaws (putBytes (r.set 0 c.length) 8 c) c := by
  have hn : c.length ≤ 8 * wordsN b.length := by rw [← hw]; unfold wordsN; omega
  have hls : (r.set 0 c.length).length = 1 + wordsN b.length := by rw [List.length_set]; exact h.len
  have hr0 : 0 < r.length := by rw [h.len]; omega
  refine ⟨?_, ?_, fun j hj => ?_, ?_⟩
  · rw [putBytes_len, hls, hw]
  · rw [putBytes_word _ (Nat.le_refl _), List.getD_eq_getElem?_getD, List.getElem?_set_self hr0]; rfl
  · rw [hw] at hj
    rw [putBytes_at _ (by rw [hls]; omega) hc]
    by_cases hc : j < c.length
    · rw [if_pos (by omega), show 8 + j - 8 = j by omega]
    · rw [if_neg (by omega), List.getD_eq_getElem?_getD, List.getElem?_eq_none (by omega)]
      have := h.at_ j hj
      rw [List.getD_eq_getElem?_getD, List.getElem?_eq_none (by omega)] at this
      rw [← this]
      unfold byteAt
      rw [List.getD_eq_getElem?_getD, List.getElem?_set_ne (by omega), ← List.getD_eq_getElem?_getD]
  · refine putBytes_lt (fun x hx => ?_) hc
    rcases List.mem_or_eq_of_mem_set hx with e | e
    · exact h.lt x e
    · rw [e]; exact hl
/-- What Read tells. -/
theorem IsRaws.read {r b : List Nat} (h : IsRaws r b) : (List.range b.length).map (fun j => byteAt r (8 + j)) = b := by
  apply List.ext_getElem?
  intro j
  by_cases hj : j < b.length
  · rw [List.getElem?_map, List.getElem?_range hj, List.getElem?_eq_getElem hj]
    show some (byteAt r (8 + j)) = _
    rw [h.at_ j (by unfold wordsN; omega), List.getD_eq_getElem?_getD, List.getElem?_eq_getElem hj]
    rfl
  · rw [List.getElem?_eq_none (by simp; omega), List.getElem?_eq_none (by omega)]
end Go.Ev
set_option linter.all false
set_option maxRecDepth 100000
namespace Go.Ev
open Go.Proofs
/-- The node of a blob. -/
def blobN (b : List Nat) : NodeD := ⟨1, [], blobRaws b⟩
structure Okb (b : List Nat) : Prop where
  b8 : Bytes8 b
  len : b.length ≤ 4096
theorem Okb.is {b : List Nat} (h : Okb b) : IsRaws (blobRaws b) b := blobRaws_is h.b8 (by have := h.len; omega)
namespace RS
section
variable {s t : RS} {nd : List NodeD} {b : List Nat} {id : Nat}
def layF (s : RS) (b : List Nat) : RS × Nat × Int :=
  if (s.alloc 1 0 ((1 + wordsN b.length : Nat) : Int)).2.2 = 0 then
    ((((s.alloc 1 0 ((1 + wordsN b.length : Nat) : Int)).1.setF (s.alloc 1 0 ((1 + wordsN b.length : Nat) : Int)).2.1 0 b.length).1.setBytesF (s.alloc 1 0 ((1 + wordsN b.length : Nat) : Int)).2.1 8 b).1,
      (s.alloc 1 0 ((1 + wordsN b.length : Nat) : Int)).2.1, 0)
  else ((s.alloc 1 0 ((1 + wordsN b.length : Nat) : Int)).1, 0, (s.alloc 1 0 ((1 + wordsN b.length : Nat) : Int)).2.2)
/-- An object of the graph that is a blob. -/
structure IsB (s : RS) (id : Nat) (b : List Nat) : Prop where
  here : s.here id
  nz : id ≠ 0
  kind : (s.obj id).kind = 1
  refs : (s.obj id).refs = []
  raws : (s.obj id).raws = blobRaws b
theorem IsB.of (v : s.Inv) (sh : s.Shd nd) (hh : s.here id) (hn : nd[id]? = some (blobN b)) : IsB s id b := by
  have h0 : id ≠ 0 := by
    rcases hh with h | h
    · have := (v.sm id h).1; omega
    · exact h.1
  have e := sh.at_ id hh
  rw [hn] at e
  have e := Option.some.inj e
  unfold blobN at e
  injection e with e1 e2 e3
  exact ⟨hh, h0, e1.symm, e2.symm, e3.symm⟩
theorem raws_len (x : IsB s id b) (ok : Okb b) : (s.obj id).raws.length = 1 + wordsN b.length := by rw [x.raws]; exact ok.is.len
/-- Its raws are others, as many. -/
def inPl (s : RS) (id : Nat) (raws : List Nat) : RS := s.setObj id { s.obj id with raws := raws }
theorem shape_raws {raws : List Nat} (hl : raws.length = (s.obj id).raws.length) : SameShape (s.obj id) { s.obj id with raws := raws } := ⟨rfl, rfl, hl, rfl, rfl⟩
theorem Inv.inPl (v : s.Inv) (hh : s.here id) {raws : List Nat} (hl : raws.length = (s.obj id).raws.length) (hw : ∀ x ∈ raws, x < 18446744073709551616) : (s.inPl id raws).Inv :=
  v.setObj hh (shape_raws hl) (fun r hr => v.rf id hh r hr) hw
theorem inPl_ref (v : s.Inv) (hh : s.here id) {raws : List Nat} (hl : raws.length = (s.obj id).raws.length) (x : Nat) : (s.inPl id raws).ref x = s.ref x := setObj_ref (v.here_lt hh) (shape_raws hl) x
theorem inPl_obj (v : s.Inv) (hh : s.here id) (raws : List Nat) : (s.inPl id raws).obj id = { s.obj id with raws := raws } := by
  unfold RS.inPl
  rw [setObj_obj _ _ (v.here_lt hh), if_pos rfl]
theorem inPl_inPl (v : s.Inv) (hh : s.here id) (r1 r2 : List Nat) : (s.inPl id r1).inPl id r2 = s.inPl id r2 := by
  show (s.inPl id r1).setObj id { (s.inPl id r1).obj id with raws := r2 } = s.setObj id _
  rw [inPl_obj v hh]
  unfold RS.inPl RS.setObj
  simp
theorem Shd.inPl (v : s.Inv) (sh : s.Shd nd) (hh : s.here id) {raws : List Nat} (x : IsB s id b) : Shd (s.inPl id raws) (nd.set id ⟨1, [], raws⟩) := by
  have := sh.setObj v hh (o := { s.obj id with raws := raws }) rfl
  have e : (⟨1, [], raws⟩ : NodeD) = ⟨(s.obj id).kind, (s.obj id).refs, raws⟩ := by rw [x.kind, x.refs]
  rw [e]
  exact this
/-- The length and then bytes are set. -/
theorem set_bytes (v : s.Inv) (x : IsB s id b) (ok : Okb b) {m p : Nat} {t : List Nat} (hm : m < 18446744073709551616) (hp : 8 + p + t.length ≤ 8 * (1 + wordsN b.length)) (ht : Bytes8 t) :
    s.setF (s.ref id) 0 m = (s.inPl id ((blobRaws b).set 0 m), 0) ∧ (s.inPl id ((blobRaws b).set 0 m)).setBytesF (s.ref id) ((8 + p : Nat) : Int) t = (s.inPl id (putBytes ((blobRaws b).set 0 m) (8 + p) t), 0) := by
  have hl := raws_len x ok
  have hl1 : ((blobRaws b).set 0 m).length = (s.obj id).raws.length := by rw [List.length_set, x.raws]
  constructor
  · have := setF_raw v (x := m) (k := 0) x.here x.nz (by omega)
    rw [x.refs] at this
    have this : s.setF (s.ref id) 0 m = _ := this
    rw [this, x.raws]
    rfl
  · have hw : ∀ y ∈ (blobRaws b).set 0 m, y < 18446744073709551616 := fun y hy => by
      rcases List.mem_or_eq_of_mem_set hy with e | e
      · exact ok.is.lt y e
      · rw [e]; exact hm
    have v1 := v.inPl x.here hl1 hw
    have hh1 : (s.inPl id ((blobRaws b).set 0 m)).here id := x.here
    have hid : (s.inPl id ((blobRaws b).set 0 m)).ident (s.ref id) = id := by
      rw [← inPl_ref v x.here hl1 id]
      exact ident_ref v1 (.inr hh1)
    have eo := inPl_obj v x.here ((blobRaws b).set 0 m)
    have hsp : (s.inPl id ((blobRaws b).set 0 m)).spanOk (s.ref id) ((8 + p : Nat) : Int) (t.length : Nat) := by
      unfold spanOk
      rw [hid, eo]
      refine ⟨x.nz, by omega, by omega, ?_⟩
      show ((8 + p : Nat) : Int) + ((t.length : Nat) : Int) ≤ 8 * ((((blobRaws b).set 0 m).length : Nat) : Int)
      rw [hl1, hl]
      omega
    unfold setBytesF
    rw [if_pos hsp, hid, eo, Int.toNat_natCast]
    have := inPl_inPl v x.here ((blobRaws b).set 0 m) (putBytes ((blobRaws b).set 0 m) (8 + p) t)
    rw [← this]
    unfold RS.inPl
    rw [show ((s.setObj id { s.obj id with raws := (blobRaws b).set 0 m }).obj id) = { s.obj id with raws := (blobRaws b).set 0 m } from eo]
/-- What laying comes to. -/
theorem lay_cases (v : s.Inv) (sh : s.Shd nd) (ok : Okb b) : ∃ t, Sub t s ∧ t.Inv ∧ (s.layF b = (t, 0, 31) ∨
    ∃ s', s.layF b = (s', s'.ref nd.length, 0) ∧ s'.Inv ∧ s'.Shd (nd ++ [blobN b]) ∧ s'.roots = s.roots ∧ (∀ id, s'.here id ↔ id = nd.length ∨ t.here id)) := by
  have hw : wordsN b.length ≤ 513 := by have := ok.len; unfold wordsN; omega
  have hsp : Shape 1 0 ((1 + wordsN b.length : Nat) : Int) := ⟨⟨by omega, by omega⟩, ⟨by omega, by omega⟩, by omega, by omega⟩
  rcases alloc_cases v 1 0 ((1 + wordsN b.length : Nat) : Int) with ⟨h, _⟩ | ⟨_, t, st, vt, h⟩
  · exact absurd hsp h
  refine ⟨t, st, vt, ?_⟩
  rcases h with e | ⟨t', ref, e, n⟩
  · refine .inl ?_
    unfold layF
    rw [e, if_neg (by show ¬ ((31 : Int) = 0); omega)]
  · refine .inr ?_
    have v' : t'.Inv := by have := v.alloc 1 0 ((1 + wordsN b.length : Nat) : Int); rw [e] at this; exact this
    have e0 : (0 : Int).toNat = 0 := rfl
    have e1 : (1 : Int).toNat = 1 := rfl
    rw [e0, e1, Int.toNat_natCast] at n
    have ln : nd.length = t.objs.length := sh.len.trans st.len.symm
    have sht := sh.sub st
    have sh' := n.shd vt sht
    have hh : t'.here nd.length := (n.here _).2 (.inl ln)
    have href : t'.ref nd.length = ref := by rw [ln]; exact n.ref
    have h0 : nd.length ≠ 0 := by have := vt.ob; omega
    have eat := sh'.at_ nd.length hh
    rw [List.getElem?_append_right (Nat.le_refl _), Nat.sub_self] at eat
    have eat : (⟨1, List.replicate 0 0, List.replicate (1 + wordsN b.length) 0⟩ : NodeD) = _ := Option.some.inj eat
    injection eat with k1 k2 k3
    have hl : (t'.obj nd.length).raws.length = 1 + wordsN b.length := by rw [← k3, List.length_replicate]
    -- set the length
    have s1 := setF_raw v' (x := b.length) (k := 0) hh h0 (by omega)
    rw [← k2] at s1
    have s1 : t'.setF (t'.ref nd.length) 0 b.length = (t'.inPl nd.length ((t'.obj nd.length).raws.set 0 b.length), 0) := s1
    have hl1 : ((t'.obj nd.length).raws.set 0 b.length).length = (t'.obj nd.length).raws.length := by rw [List.length_set]
    have hw1 : ∀ y ∈ (t'.obj nd.length).raws.set 0 b.length, y < 18446744073709551616 := fun y hy => by
      rcases List.mem_or_eq_of_mem_set hy with q | q
      · rw [← k3] at q
        rw [(List.mem_replicate.1 q).2]; omega
      · have := ok.len; omega
    have v1 := v'.inPl hh hl1 hw1
    have hh1 : (t'.inPl nd.length ((t'.obj nd.length).raws.set 0 b.length)).here nd.length := hh
    have hid : (t'.inPl nd.length ((t'.obj nd.length).raws.set 0 b.length)).ident (t'.ref nd.length) = nd.length := by
      rw [← inPl_ref v' hh hl1 nd.length]
      exact ident_ref v1 (.inr hh1)
    have eo := inPl_obj v' hh ((t'.obj nd.length).raws.set 0 b.length)
    have hspn : (t'.inPl nd.length ((t'.obj nd.length).raws.set 0 b.length)).spanOk (t'.ref nd.length) 8 (b.length : Nat) := by
      unfold spanOk
      rw [hid, eo]
      refine ⟨h0, by omega, by omega, ?_⟩
      show (8 : Int) + ((b.length : Nat) : Int) ≤ 8 * ((((t'.obj nd.length).raws.set 0 b.length).length : Nat) : Int)
      rw [hl1, hl]
      unfold wordsN
      omega
    have er : (t'.obj nd.length).raws.set 0 b.length = b.length :: List.replicate (wordsN b.length) 0 := by
      rw [← k3, Nat.add_comm, List.replicate_succ]; rfl
    have s2 : (t'.inPl nd.length ((t'.obj nd.length).raws.set 0 b.length)).setBytesF (t'.ref nd.length) 8 b = (t'.inPl nd.length (blobRaws b), 0) := by
      unfold setBytesF
      rw [if_pos hspn, hid, eo]
      have q := inPl_inPl v' hh ((t'.obj nd.length).raws.set 0 b.length) (blobRaws b)
      rw [← q]
      conv => rhs; unfold RS.inPl
      rw [show ((t'.setObj nd.length { t'.obj nd.length with raws := (t'.obj nd.length).raws.set 0 b.length }).obj nd.length) = { t'.obj nd.length with raws := (t'.obj nd.length).raws.set 0 b.length } from eo]
      show (RS.setObj _ _ { t'.obj nd.length with raws := putBytes ((t'.obj nd.length).raws.set 0 b.length) 8 b }, (0 : Int)) = _
      rw [er]
      rfl
    have hl2 : (blobRaws b).length = (t'.obj nd.length).raws.length := by rw [hl]; exact ok.is.len
    refine ⟨t'.inPl nd.length (blobRaws b), ?_, v'.inPl hh hl2 ok.is.lt, ?_, n.roots.trans st.roots, fun id => by rw [ln]; exact n.here id⟩
    · unfold layF
      rw [e]
      simp only [if_true]
      rw [← href, s1]
      simp only
      rw [s2, inPl_ref v' hh hl2]
    · have q := sh'.setObj v' hh (o := { t'.obj nd.length with raws := blobRaws b }) rfl
      have e2 : (nd ++ [(⟨1, List.replicate 0 0, List.replicate (1 + wordsN b.length) 0⟩ : NodeD)]).set nd.length ⟨(t'.obj nd.length).kind, (t'.obj nd.length).refs, blobRaws b⟩ = nd ++ [blobN b] := by
        rw [List.set_append_right _ _ (Nat.le_refl _), Nat.sub_self, ← k1, ← k2]
        rfl
      rw [e2] at q
      exact q
end
end RS
end Go.Ev
set_option linter.all false
set_option maxRecDepth 100000
namespace Go.Ev
open Go.Proofs
namespace RS
section
variable {s : RS} {nd : List NodeD} {b : List Nat}
theorem reachL_sub (s : RS) : ∀ (ids : List Nat) (g : Gc) (x : Nat), x ∈ (s.reachL g ids).copied ∨ x ∈ (s.reachL g ids).line → x ∈ g.copied ∨ x ∈ g.line ∨ x ∈ ids
  | [], g, x, h => h.imp_right .inl
  | r :: ids, g, x, h => by
    have h : x ∈ (s.reachL (s.reach g r) ids).copied ∨ x ∈ (s.reachL (s.reach g r) ids).line := h
    rcases reachL_sub s ids _ x h with h | h | h
    · unfold reach at h
      split at h
      · exact .inl h
      · split at h
        · exact .inl h
        · rcases List.mem_append.1 h with h | h
          · exact .inl h
          · exact .inr (.inr (by rw [List.mem_singleton.1 h]; exact List.mem_cons_self ..))
    · unfold reach at h
      split at h
      · exact .inr (.inl h)
      · split at h
        · rcases List.mem_append.1 h with h | h
          · exact .inr (.inl h)
          · exact .inr (.inr (by rw [List.mem_singleton.1 h]; exact List.mem_cons_self ..))
        · exact .inr (.inl h)
    · exact .inr (.inr (List.mem_cons_of_mem _ h))
/-- What the handles hold, each as often as it is held. -/
def heldL (s : RS) : List Nat := s.roots.filterMap fun x => x
theorem walk_held (hr : ∀ id, some id ∈ s.roots → (s.obj id).refs = []) : ∀ (n x : Nat), x ∈ (s.gcAt n).copied ∨ x ∈ (s.gcAt n).line → x ∈ s.heldL := by
  intro n
  induction n with
  | zero =>
    intro x h
    rcases reachL_sub s _ _ x h with h | h | h
    · simp at h
    · simp at h
    · exact h
  | succ n ih =>
    intro x h
    have hh : ∀ y ∈ s.heldL, (s.obj y).refs = [] := fun y hy => by
      obtain ⟨z, hz, e⟩ := List.mem_filterMap.1 hy
      have e : z = some y := e
      subst e
      exact hr y hz
    have h : x ∈ (s.gcStep (s.gcAt n)).copied ∨ x ∈ (s.gcStep (s.gcAt n)).line := h
    unfold gcStep at h
    cases e : (s.gcAt n).copied[(s.gcAt n).a]? with
    | some y =>
      rw [e] at h
      have := hh y (ih y (.inl (List.mem_of_getElem? e)))
      simp only [this] at h
      exact ih x h
    | none =>
      rw [e] at h
      cases e2 : (s.gcAt n).line[(s.gcAt n).b]? with
      | some y =>
        rw [e2] at h
        have := hh y (ih y (.inr (List.mem_of_getElem? e2)))
        simp only [this] at h
        exact ih x h
      | none =>
        rw [e2] at h
        exact ih x h
theorem live_le (v : s.Inv) (hr : ∀ id, some id ∈ s.roots → (s.obj id).refs = []) : s.collection.used ≤ 1 + s.sizes s.heldL ∧ s.collection.large ≤ 2 * s.sizes s.heldL := by
  have k := GcOk.fin v
  have n1 := List.nodup_append.1 k.nd
  have w := walk_held hr s.objs.length
  have e1 : s.collection.used = 1 + s.sizes s.gcEnd.copied := rfl
  have h1 := sizes_le (s := s) s.gcEnd.copied s.heldL n1.1 fun x hx => w x (.inl hx)
  have h2 := sizes_le (s := s) s.gcEnd.line s.heldL n1.2.1 fun x hx => w x (.inr hx)
  have h3 : s.lsum s.gcEnd.line ≤ 2 * s.sizes s.gcEnd.line := by
    unfold lsum sizes
    have : ∀ l : List Nat, (l.map fun id => s.size id + 1).sum ≤ 2 * (l.map s.size).sum := fun l => by
      induction l with
      | nil => simp
      | cons y l ih =>
        have : 0 < s.size y := by unfold size RObj.size; omega
        simp only [List.map_cons, List.sum_cons]
        omega
    exact this _
  rw [collection_lsum v]
  omega
theorem alloc_fits (v : s.Inv) (hr : ∀ id, some id ∈ s.roots → (s.obj id).refs = []) {w : Nat} (hw : w ≤ 600) (hS : s.sizes s.heldL ≤ 20000) (hL : s.limit = 262144) : (s.alloc 1 0 (w : Nat)).2.2 = 0 := by
  refine (alloc_room v (⟨⟨by omega, by omega⟩, ⟨by omega, by omega⟩, by omega, by omega⟩ : Shape 1 0 (w : Nat))).2 ?_
  obtain ⟨h1, h2⟩ := live_le v hr
  rw [Int.toNat_natCast]
  unfold Room
  rw [hL]
  have e0 : (0 : Int).toNat = 0 := rfl
  rw [e0]
  split
  · omega
  · have : max s.collection.used 64 ≤ 1 + 20000 + 64 := by omega
    omega
/-- A blob is laid. -/
theorem lay_fits (v : s.Inv) (sh : s.Shd nd) (ok : Okb b) (hr : ∀ id, some id ∈ s.roots → (s.obj id).refs = []) (hS : s.sizes s.heldL ≤ 20000) (hL : s.limit = 262144) :
    ∃ s', s.layF b = (s', s'.ref nd.length, 0) ∧ s'.Inv ∧ s'.Shd (nd ++ [blobN b]) ∧ s'.roots = s.roots ∧ s'.here nd.length ∧ s'.limit = s.limit := by
  have hw : 1 + wordsN b.length ≤ 600 := by have := ok.len; unfold wordsN; omega
  have h0 := alloc_fits v hr hw hS hL
  obtain ⟨t, st, vt, h⟩ := lay_cases v sh ok
  rcases h with e | ⟨s', e, v', sh', er, hh⟩
  · exfalso
    unfold layF at e
    rw [if_pos h0] at e
    have := congrArg (fun z => z.2.2) e
    exact absurd this (by show ¬ ((0 : Int) = 31); omega)
  · refine ⟨s', e, v', sh', er, (hh _).2 (.inl rfl), ?_⟩
    have e2 := e
    unfold layF at e2
    rw [if_pos h0] at e2
    have := congrArg (fun z => z.1.limit) e2
    have this : _ = s'.limit := this
    rw [← this]
    exact (setBytesF_lim _ _ _).trans ((setF_lim _ _ _).trans (alloc_lim _ _ _))
end
end RS
end Go.Ev
