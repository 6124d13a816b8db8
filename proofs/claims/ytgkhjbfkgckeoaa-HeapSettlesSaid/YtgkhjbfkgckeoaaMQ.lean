/- Memory by parts, lists of rows, lengths, the statements' helpers. No condition but that it is one. -/
import Derived.Test.YtgkhjbfkgckeoaaHM
import Derived.Test.YtgkhjbfkgckeoaaHZ
import Derived.Test.YtgkhjbfkgckeoaaGZ
import Derived.Test.YtgkhjbfkgckeoaaGS
set_option linter.all false
set_option maxRecDepth 100000
namespace Go.Ev
structure Mem where
  loc : Nat → Option Nat
  cont : Nat → List Value
structure Sep (h : Hp) (M : Mem) : Prop where
  row : ∀ x b, M.loc x = some b → Row h b (M.cont x)
  inj : ∀ x y b, M.loc x = some b → M.loc y = some b → x = y
def Mem.own (M : Mem) (b : Nat) : Prop := ∃ x, M.loc x = some b
def Mem.upd (M : Mem) (x : Nat) (b : Option Nat) (c : List Value) : Mem := ⟨fun y => if y = x then b else M.loc y, fun y => if y = x then c else M.cont y⟩
theorem Mem.loc_self (M : Mem) (x : Nat) (b : Option Nat) (c : List Value) : (M.upd x b c).loc x = b := if_pos rfl
theorem Mem.cont_self (M : Mem) (x : Nat) (b : Option Nat) (c : List Value) : (M.upd x b c).cont x = c := if_pos rfl
theorem Mem.loc_ne (M : Mem) {x y : Nat} (b : Option Nat) (c : List Value) (h : y ≠ x) : (M.upd x b c).loc y = M.loc y := if_neg h
theorem Mem.cont_ne (M : Mem) {x y : Nat} (b : Option Nat) (c : List Value) (h : y ≠ x) : (M.upd x b c).cont y = M.cont y := if_neg h
/-- What a call that works on the parts may change. -/
def Chg (h : Hp) (M : Mem) (h' : Hp) (M' : Mem) : Prop := Kept M.own h h' ∧ ∀ b, M'.own b → M.own b ∨ h.size ≤ b
section
variable {h h' h2 : Hp} {M M' M2 : Mem}
theorem Chg.refl (h : Hp) (M : Mem) : Chg h M h M := ⟨Kept.refl _ _, fun _ => .inl⟩
theorem Chg.trans (a : Chg h M h' M') (b : Chg h' M' h2 M2) : Chg h M h2 M2 :=
  ⟨⟨Nat.le_trans a.1.1 b.1.1, fun i hi hn => (b.1.2 i (Nat.lt_of_lt_of_le hi a.1.1) fun o => (a.2 i o).elim hn fun h => by omega).trans (a.1.2 i hi hn)⟩,
    fun i o => (b.2 i o).elim (a.2 i) fun h => .inr (Nat.le_trans a.1.1 h)⟩
theorem Chg.of_kept (k : Kept (fun _ => False) h h') : Chg h M h' M := ⟨k.mono fun _ _ e => e.elim, fun _ => .inl⟩
theorem Sep.lt (s : Sep h M) {x b : Nat} (hx : M.loc x = some b) : b < h.size := row_lt (s.row x b hx)
theorem Sep.own_lt (s : Sep h M) {b : Nat} (hb : M.own b) : b < h.size := by obtain ⟨x, hx⟩ := hb; exact s.lt hx
theorem Sep.keep (s : Sep h M) {S : Nat → Prop} (k : Kept S h h') (hS : ∀ b, M.own b → ¬ S b) : Sep h' M := ⟨fun x b hx => kept_row k (s.row x b hx) (hS b ⟨x, hx⟩), s.inj⟩
theorem Sep.keepN (s : Sep h M) (k : Kept (fun _ => False) h h') : Sep h' M := s.keep k fun _ _ e => e
theorem Sep.cell (s : Sep h M) {x b : Nat} (hx : M.loc x = some b) (o : Nat) : Go.Ev.cell h ⟨b, o, none⟩ = (M.cont x)[o]? := cell_row (s.row x b hx) o
theorem Sep.cellA (s : Sep h M) {x b : Nat} (hx : M.loc x = some b) (o : Nat) : Go.Ev.cell h ((ad b).add o) = (M.cont x)[o]? := by rw [add_ad]; exact s.cell hx o
theorem Sep.cell0 (s : Sep h M) {x b : Nat} (hx : M.loc x = some b) : Go.Ev.cell h (ad b) = (M.cont x)[0]? := s.cell hx 0
/-- One cell of a part is written. -/
theorem Sep.st (s : Sep h M) {x b o : Nat} (hx : M.loc x = some b) {a : Addr} {v : Value} (ha : a = ⟨b, o, none⟩) (ho : o < (M.cont x).length) {K : Hp → Prop}
    (hK : ∀ h', Sep h' (M.upd x (some b) ((M.cont x).set o v)) → Chg h M h' (M.upd x (some b) ((M.cont x).set o v)) → K h') : stOk h a ∧ Let (setc h a v) fun h' => K h' := by
  subst ha
  refine ⟨stOk_row (s.row x b hx) ho, hK _ ⟨fun y c hy => ?_, fun y z c hy hz => ?_⟩ ⟨?_, fun c hc => ?_⟩⟩
  · by_cases e : y = x
    · subst e
      rw [Mem.loc_self] at hy
      obtain rfl := Option.some.inj hy
      rw [Mem.cont_self]
      exact row_setc (s.row y b hx) o v
    · rw [Mem.loc_ne _ _ _ e] at hy
      rw [Mem.cont_ne _ _ _ e]
      exact row_setc_ne (s.row y c hy) v fun (e' : c = b) => e (s.inj y x b (e' ▸ hy) hx)
  · have loc : ∀ w, (M.upd x (some b) ((M.cont x).set o v)).loc w = some c → M.loc w = some c := fun w hw => by
      by_cases e : w = x
      · subst e; rw [Mem.loc_self] at hw; rw [hx]; exact hw
      · rwa [Mem.loc_ne _ _ _ e] at hw
    exact s.inj y z c (loc y hy) (loc z hz)
  · exact kept_setc h o v ⟨x, hx⟩
  · obtain ⟨y, hy⟩ := hc
    by_cases e : y = x
    · subst e; rw [Mem.loc_self] at hy; obtain rfl := Option.some.inj hy; exact .inl ⟨y, hx⟩
    · rw [Mem.loc_ne _ _ _ e] at hy; exact .inl ⟨y, hy⟩
/-- A part's block is another, new one (or none). -/
theorem Sep.renew (s : Sep h M) {x : Nat} {ob : Option Nat} {c : List Value} (k : Kept (fun b => M.loc x = some b) h h') (hr : ∀ b, ob = some b → Row h' b c) (hn : ∀ b, ob = some b → M.loc x = some b ∨ h.size ≤ b) :
    Sep h' (M.upd x ob c) ∧ Chg h M h' (M.upd x ob c) := by
  have lo : ∀ y c', y ≠ x → M.loc y = some c' → c' < h.size := fun y c' _ hy => s.lt hy
  refine ⟨⟨fun y c' hy => ?_, fun y z c' hy hz => ?_⟩, ⟨k.mono fun b _ e => ⟨x, e⟩, fun b hb => ?_⟩⟩
  · by_cases e : y = x
    · subst e
      rw [Mem.loc_self] at hy
      rw [Mem.cont_self]
      exact hr c' hy
    · rw [Mem.loc_ne _ _ _ e] at hy
      rw [Mem.cont_ne _ _ _ e]
      exact kept_row k (s.row y c' hy) fun e' => e (s.inj y x c' hy e')
  · by_cases e : y = x <;> by_cases e2 : z = x
    · rw [e, e2]
    · subst e
      rw [Mem.loc_self] at hy
      rw [Mem.loc_ne _ _ _ e2] at hz
      rcases hn c' hy with h1 | h1
      · exact absurd (s.inj z y c' hz h1) e2
      · have := s.lt hz; omega
    · subst e2
      rw [Mem.loc_self] at hz
      rw [Mem.loc_ne _ _ _ e] at hy
      rcases hn c' hz with h1 | h1
      · exact absurd (s.inj y z c' hy h1) e
      · have := s.lt hy; omega
    · rw [Mem.loc_ne _ _ _ e] at hy
      rw [Mem.loc_ne _ _ _ e2] at hz
      exact s.inj y z c' hy hz
  · obtain ⟨y, hy⟩ := hb
    by_cases e : y = x
    · subst e
      rw [Mem.loc_self] at hy
      exact (hn b hy).imp_left fun h => ⟨y, h⟩
    · rw [Mem.loc_ne _ _ _ e] at hy; exact .inl ⟨y, hy⟩
theorem Sep.push (s : Sep h M) (x : Nat) (arr : Array Value) (t : TypeId) : Sep (h.push (.cells arr t)) (M.upd x (some h.size) arr.toList) ∧ Chg h M (h.push (.cells arr t)) (M.upd x (some h.size) arr.toList) :=
  s.renew (kept_push _ _ _) (fun b e => by obtain rfl := Option.some.inj e; exact row_new h arr t) fun b e => .inr (by obtain rfl := Option.some.inj e; exact Nat.le_refl _)
theorem Sep.drop (s : Sep h M) (x : Nat) (c : List Value) : Sep h (M.upd x none c) ∧ Chg h M h (M.upd x none c) := s.renew (Kept.refl _ _) (fun b e => by cases e) fun b e => by cases e
end
/-- A slice over a part. -/
structure IsSl (sz : Nat) (M : Mem) (x : Nat) (s : Sl) (vs : List Value) : Prop where
  len : vs.length = s.n * sz
  nil : M.loc x = none → s.a = none ∧ s.n = 0 ∧ s.c = 0
  row : ∀ b, M.loc x = some b → s.a = some (ad b) ∧ s.n ≤ s.c ∧ ∃ junk, M.cont x = vs ++ junk ∧ vs.length + junk.length = s.c * sz
section
variable {h h' : Hp} {M M' : Mem} {sz x y : Nat} {s : Sl} {vs : List Value}
theorem IsSl.slAt (i : IsSl sz M x s vs) (p : Sep h M) : SlAt sz h s.a s.n s.c (M.loc x) vs :=
  ⟨i.len, i.nil, fun b hb => by obtain ⟨h1, h2, j, h3, h4⟩ := i.row b hb; exact ⟨h1, h2, j, by rw [← h3]; exact p.row x b hb, h4⟩⟩
theorem IsSl.other (i : IsSl sz M y s vs) {b : Option Nat} {c : List Value} (h : y ≠ x) : IsSl sz (M.upd x b c) y s vs :=
  ⟨i.len, fun e => i.nil (by rwa [Mem.loc_ne _ _ _ h] at e), fun b' e => by
    rw [Mem.loc_ne _ _ _ h] at e
    rw [Mem.cont_ne _ _ _ h]
    exact i.row b' e⟩
theorem IsSl.nilSl (M : Mem) (sz x : Nat) (c : List Value) : IsSl sz (M.upd x none c) x ⟨none, 0, 0⟩ [] := ⟨by simp, fun _ => ⟨rfl, rfl, rfl⟩, fun b e => by rw [Mem.loc_self] at e; cases e⟩
theorem IsSl.some_of (i : IsSl sz M x s vs) (hn : vs ≠ []) : ∃ b, M.loc x = some b ∧ s.a = some (ad b) := by
  cases hl : M.loc x with
  | none =>
    have := (i.nil hl).2.1
    have := i.len
    exact absurd (List.length_eq_zero_iff.1 (by rw [i.len, ‹s.n = 0›]; omega)) hn
  | some b => exact ⟨b, rfl, (i.row b hl).1⟩
/-- A cell of a slice. -/
theorem IsSl.at (i : IsSl sz M x s vs) (p : Sep h M) {o : Nat} {v : Value} (hv : vs[o]? = some v) : ∃ b, M.loc x = some b ∧ s.a = some (ad b) ∧ cell h ⟨b, o, none⟩ = some v := by
  have ho := (List.getElem?_eq_some_iff.1 hv).1
  obtain ⟨b, hb, ha⟩ := i.some_of (fun e => by rw [e] at ho; simp at ho)
  obtain ⟨_, _, j, h3, _⟩ := i.row b hb
  exact ⟨b, hb, ha, by rw [p.cell hb, h3, List.getElem?_append_left ho]; exact hv⟩
/-- A cell of a slice is written. -/
theorem IsSl.set (i : IsSl sz M x s vs) {b o : Nat} (hb : M.loc x = some b) (v : Value) (ho : o < vs.length) : o < (M.cont x).length ∧ IsSl sz (M.upd x (some b) ((M.cont x).set o v)) x s (vs.set o v) := by
  obtain ⟨h1, h2, j, h3, h4⟩ := i.row b hb
  refine ⟨by rw [h3, List.length_append]; omega, ⟨by rw [List.length_set]; exact i.len, (fun e => by rw [Mem.loc_self] at e; cases e), fun b' e => ?_⟩⟩
  rw [Mem.loc_self] at e
  obtain rfl := Option.some.inj e
  rw [Mem.cont_self]
  exact ⟨h1, h2, j, by rw [h3, List.set_append_left _ _ ho], by rw [List.length_set]; exact h4⟩
/-- append -/
theorem IsSl.app {e bys : Nat} {z : Array Value} {m : Nat} {news : List Value} {K : Option Addr → Nat → Nat → Hp → Prop} (i : IsSl sz M x s vs) (p : Sep h M) (hz : z.size = sz) (hl : news.length = m * sz) (hcell : ∀ v ∈ news, isCell v = true)
    (hby : (2 * (s.n + m) + 768) * bys ≤ 2 ^ 48) (hlt : s.n + m < 2 ^ 62)
    (hK : ∀ a' c' h' ob c, Sep h' (M.upd x ob c) → IsSl sz (M.upd x ob c) x ⟨a', s.n + m, c'⟩ (vs ++ news) → Chg h M h' (M.upd x ob c) → K a' (s.n + m) c' h') : appT e sz bys z s.a s.n s.c (s.n + m) news h K := by
  refine appT_ok2 (i.slAt p) hz hl hcell hby hlt fun a' c' ob' h' s' hcase => ?_
  have fin : ∀ c, (∀ b, ob' = some b → Row h' b c) → (∀ b, ob' = some b → a' = some (ad b) ∧ s.n + m ≤ c' ∧ ∃ junk, c = (vs ++ news) ++ junk ∧ (vs ++ news).length + junk.length = c' * sz) → K a' (s.n + m) c' h' := fun c hr hs => by
    have k : Kept (fun b => M.loc x = some b) h h' := by
      rcases hcase with ⟨_, k⟩ | ⟨_, k⟩
      · exact k
      · exact k.mono fun _ _ e => e.elim
    have hn : ∀ b, ob' = some b → M.loc x = some b ∨ h.size ≤ b := fun b e => by
      rcases hcase with ⟨q, _⟩ | ⟨q, _⟩
      · exact .inl (q ▸ e)
      · rw [q] at e; obtain rfl := Option.some.inj e; exact .inr (Nat.le_refl _)
    obtain ⟨q1, q2⟩ := p.renew (x := x) k hr hn
    refine hK a' c' h' ob' c q1 ⟨s'.len, fun e => ?_, fun b e => ?_⟩ q2
    · rw [Mem.loc_self] at e; exact s'.nil e
    · rw [Mem.loc_self] at e
      rw [Mem.cont_self]
      exact hs b e
  cases ho : ob' with
  | none => exact fin [] (fun b e => by rw [ho] at e; cases e) fun b e => by rw [ho] at e; cases e
  | some b =>
    obtain ⟨q1, q2, j, q3, q4⟩ := s'.row b ho
    refine fin ((vs ++ news) ++ j) (fun b' e => ?_) fun b' e => ?_
    · rw [ho] at e; obtain rfl := Option.some.inj e; exact q3
    · rw [ho] at e; obtain rfl := Option.some.inj e; exact ⟨q1, q2, j, rfl, q4⟩
/-- append of one element that lies in a new block -/
theorem IsSl.app1 {e bys : Nat} {z : Array Value} {arr : Array Value} {t : TypeId} {K : Option Addr → Nat → Nat → Hp → Prop} (i : IsSl sz M x s vs) (p : Sep h M) (hz : z.size = sz) (hl : arr.toList.length = 1 * sz) (hcell : ∀ v ∈ arr.toList, isCell v = true)
    (hby : (2 * (s.n + 1) + 768) * bys ≤ 2 ^ 48) (hlt : s.n + 1 < 2 ^ 62)
    (hK : ∀ a' c' h' ob c, Sep h' (M.upd x ob c) → IsSl sz (M.upd x ob c) x ⟨a', s.n + 1, c'⟩ (vs ++ arr.toList) → Chg h M h' (M.upd x ob c) → K a' (s.n + 1) c' h') :
    Let (h.push (.cells arr t)) fun h2 => appSl e sz bys z s.a s.n s.c (some (nb h)) 1 h2 K := by
  show (fun h2 => appSl e sz bys z s.a s.n s.c (some (nb h)) 1 h2 K) (h.push (.cells arr t))
  generalize e2 : h.push (.cells arr t) = h2
  have e2 := e2.symm
  have k2 : Kept (fun _ => False) h h2 := e2 ▸ kept_push _ _ _
  have row2 : Row h2 h.size arr.toList := e2 ▸ row_new h arr t
  exact ⟨arr.toList, reads_row row2 (fun j v hj => by rw [Nat.zero_add]; exact hj), hl, i.app (p.keepN k2) hz hl hcell hby hlt fun a' c' h' ob c q1 q2 q3 => hK a' c' h' ob c q1 q2 ((Chg.of_kept k2).trans q3)⟩
end
end Go.Ev
set_option linter.all false
set_option maxRecDepth 100000
namespace Go.Ev
open Go.Proofs
section
variable {h h' : Hp}
theorem flat_len {α : Type} {f : α → List Value} {sz : Nat} (hf : ∀ x, (f x).length = sz) : ∀ l : List α, (l.flatMap f).length = l.length * sz
  | [] => by simp
  | x :: l => by rw [List.flatMap_cons, List.length_append, hf, flat_len hf l, List.length_cons, Nat.add_mul]; omega
theorem flat_at {α : Type} {f : α → List Value} {sz : Nat} (hf : ∀ x, (f x).length = sz) : ∀ (l : List α) (i j : Nat) (x : α), l[i]? = some x → j < sz → (l.flatMap f)[i * sz + j]? = (f x)[j]?
  | [], _, _, _, h, _ => by simp at h
  | y :: l, 0, j, x, h, hj => by
    obtain rfl : y = x := by simpa using h
    rw [List.flatMap_cons, Nat.zero_mul, Nat.zero_add, List.getElem?_append_left (by rw [hf]; exact hj)]
  | y :: l, i + 1, j, x, h, hj => by
    rw [List.flatMap_cons, List.getElem?_append_right (by rw [hf, Nat.add_mul]; omega), hf]
    have e : (i + 1) * sz + j - sz = i * sz + j := by rw [Nat.add_mul]; omega
    rw [e]
    exact flat_at hf l i j x (by simpa using h) hj
theorem flat_set {α : Type} {f : α → List Value} {sz : Nat} (hf : ∀ x, (f x).length = sz) : ∀ (l : List α) (i j : Nat) (x x' : α) (v : Value), l[i]? = some x → j < sz → f x' = (f x).set j v → (l.flatMap f).set (i * sz + j) v = (l.set i x').flatMap f
  | [], _, _, _, _, _, h, _, _ => by simp at h
  | y :: l, 0, j, x, x', v, h, hj, e => by
    obtain rfl : y = x := by simpa using h
    rw [List.flatMap_cons, Nat.zero_mul, Nat.zero_add, List.set_append_left _ _ (by rw [hf]; exact hj), List.set_cons_zero, List.flatMap_cons, e]
  | y :: l, i + 1, j, x, x', v, h, hj, e => by
    rw [List.flatMap_cons, List.set_append_right _ _ (by rw [hf, Nat.add_mul]; omega), hf, List.set_cons_succ, List.flatMap_cons]
    have e2 : (i + 1) * sz + j - sz = i * sz + j := by rw [Nat.add_mul]; omega
    rw [e2, flat_set hf l i j x x' v (by simpa using h) hj e]
def rootZ : Option Nat → Value
  | some id => nv id
  | none => .int .i64 (-1)
theorem sl_at {M : Mem} {x : Nat} {sl : Sl} {α : Type} {l : List α} {f : α → Value} (i : IsSl 1 M x sl (l.map f)) (p : Sep h M) {k : Nat} {a : α} (hk : l[k]? = some a) : ∃ b, M.loc x = some b ∧ sl.a = some (ad b) ∧ cell h ((ad b).add (k * 1)) = some (f a) ∧ ((0 : Int) ≤ (k : Int) ∧ (k : Int) < ((sl.n : Nat) : Int)) := by
  obtain ⟨b, hb, ha, hc⟩ := i.at p (o := k) (v := f a) (by rw [List.getElem?_map, hk]; rfl)
  have hl := i.len
  rw [List.length_map] at hl
  have := (List.getElem?_eq_some_iff.1 hk).1
  exact ⟨b, hb, ha, by rw [add_ad, Nat.mul_one]; exact hc, by omega, by omega⟩
theorem reads_kept {h h' : Hp} {S : Nat → Prop} (k : Kept S h h') {a : Option Addr} {vs : List Value} (r : ReadsO h a vs) (hS : ∀ p, a = some p → p.block < h.size ∧ ¬ S p.block) : ReadsO h' a vs := by
  cases a with
  | none => exact r
  | some p =>
    obtain ⟨h1, h2⟩ := hS p rfl
    have e := k.2 _ h1 h2
    intro j v hv
    have := r j v hv
    unfold cell at this ⊢
    have eb : (p.add j).block = p.block := by unfold Addr.add; split <;> rfl
    rw [eb] at this ⊢
    rw [e]
    exact this
theorem reads_kept2 {h h' : Hp} {S : Nat → Prop} (k : Kept S h h') {a : Option Addr} {vs : List Value} (r : ReadsO h a vs) (hS : ∀ p, a = some p → vs ≠ [] → p.block < h.size ∧ ¬ S p.block) : ReadsO h' a vs := by
  by_cases hv : vs = []
  · subst hv
    cases a with
    | none => rfl
    | some p => intro j v hv; simp at hv
  · exact reads_kept k r fun p hp => hS p hp hv
theorem reads_keptN {h h' : Hp} (k : Kept (fun _ => False) h h') {a : Option Addr} {vs : List Value} (r : ReadsO h a vs) : ReadsO h' a vs := by
  refine reads_kept2 k r fun p hp hv => ⟨?_, id⟩
  subst hp
  cases vs with
  | nil => exact absurd rfl hv
  | cons v vs =>
    have h0 : cell h (p.add 0) = some v := r 0 v rfl
    unfold cell at h0
    have eb : (p.add 0).block = p.block := by unfold Addr.add; rfl
    rw [eb] at h0
    by_cases hl : p.block < h.size
    · exact hl
    · rw [Array.getElem?_eq_none (by omega)] at h0
      cases h0
theorem or_l {a b c : Prop} : ((a ∨ b) ∨ c) ↔ (b ∨ a ∨ c) := ⟨fun h => h.elim (fun h => h.elim (fun h => .inr (.inl h)) .inl) (fun h => .inr (.inr h)), fun h => h.elim (fun h => .inl (.inr h)) fun h => h.elim (fun h => .inl (.inl h)) .inr⟩
theorem or_r {a b c : Prop} : (a ∨ b ∨ c) ↔ (c ∨ a ∨ b) := ⟨fun h => h.elim (fun h => .inr (.inl h)) fun h => h.elim (fun h => .inr (.inr h)) .inl, fun h => h.elim (fun h => .inr (.inr h)) fun h => h.elim .inl fun h => .inr (.inl h)⟩
theorem PtrOk_mk' {o : Option Addr} {a : Addr} {K : Addr → Prop} (e : o = some a) (h : K a) : PtrOk o K := e ▸ h
theorem readsO_get {h : Hp} {a : Option Addr} {vs : List Value} (r : ReadsO h a vs) {i : Nat} {v : Value} (hv : vs[i]? = some v) : ∃ p, a = some p ∧ cell h (p.add i) = some v := by
  cases a with
  | none =>
    have e : vs = [] := r
    rw [e] at hv
    cases hv
  | some p => exact ⟨p, rfl, r i v hv⟩
theorem slAt_reads {h : Hp} {a : Option Addr} {n c : Nat} {ob : Option Nat} {vs : List Value} (s : SlAt 1 h a n c ob vs) : ReadsO h a vs := by
  cases ob with
  | none =>
    have h1 := s.nil rfl
    have h2 := s.len
    rw [h1.1]
    have : vs.length = 0 := by rw [h2, h1.2.1]
    exact List.length_eq_zero_iff.1 this
  | some b =>
    obtain ⟨h1, _, j, h3, _⟩ := s.row b rfl
    rw [h1]
    exact reads_row h3 fun k v hv => by rw [Nat.zero_add, List.getElem?_append_left (List.getElem?_eq_some_iff.1 hv).1]; exact hv
theorem row_reads {h : Hp} {b : Nat} {vs : List Value} (r : Row h b vs) : ReadsO h (some (ad b)) vs := reads_row r fun j v hv => by rw [Nat.zero_add]; exact hv
theorem add_add (p : Addr) (a b : Nat) : (p.add a).add b = p.add (a + b) := by
  unfold Addr.add
  by_cases ha : a = 0
  · subst ha; simp
  · by_cases hb : b = 0
    · subst hb; simp
    · rw [if_neg ha, if_neg hb, if_neg (by omega), Nat.add_assoc]
theorem shift8 (j : Nat) : (min (IntKind.wrap .u64 (IntKind.wrap .i64 ((8 : Int) * (((j % 8 : Nat) : Int))))).toNat (IntKind.bits .u64)) = j % 8 * 8 ∧ (0 : Int) ≤ IntKind.wrap .u64 (IntKind.wrap .i64 ((8 : Int) * (((j % 8 : Nat) : Int)))) := by
  rw [wrap_ar (x := (8 : Int) * (((j % 8 : Nat) : Int))) (by omega) (by omega), wrap_u64' (by omega) (by omega), bits_u64]
  omega
theorem tmod8 (p : Nat) : Int.tmod (p : Int) (8 : Int) = ((p % 8 : Nat) : Int) := by rw [tmod_nn (by omega)]; omega
end
end Go.Ev
set_option linter.all false
set_option maxRecDepth 100000
namespace Go.Ev
open Go.Proofs
namespace RS
section
variable {s : RS}
theorem become_len (n : Nat) : (s.become n).objs.length = s.objs.length ∧ (s.become n).roots = s.roots := by unfold become; split <;> exact ⟨rfl, rfl⟩
theorem fit_len (n : Nat) : (s.fit n).objs.length = s.objs.length ∧ (s.fit n).roots = s.roots := by
  unfold fit
  split
  · split
    · exact become_len _
    · exact ⟨rfl, rfl⟩
  · split
    · exact become_len _
    · exact ⟨rfl, rfl⟩
theorem coll_len : s.collection.objs.length = s.objs.length ∧ s.collection.roots = s.roots := by unfold collection; exact ⟨by simp, rfl⟩
theorem collect_len : s.collect.objs.length = s.objs.length ∧ s.collect.roots = s.roots := by
  unfold collect
  exact ⟨(fit_len _).1.trans coll_len.1, (fit_len _).2.trans coll_len.2⟩
theorem resize_len (n : Int) : (s.resize n).1.objs.length = s.objs.length ∧ (s.resize n).1.roots = s.roots := by
  unfold resize
  split
  · exact ⟨rfl, rfl⟩
  · split
    · exact coll_len
    · exact ⟨(become_len _).1.trans coll_len.1, (become_len _).2.trans coll_len.2⟩
theorem setObj_len (id : Nat) (o : RObj) : (s.setObj id o).objs.length = s.objs.length ∧ (s.setObj id o).roots = s.roots := ⟨by unfold setObj; simp, rfl⟩
theorem setF_len (r : Nat) (i : Int) (x : Nat) : (s.setF r i x).1.objs.length = s.objs.length ∧ (s.setF r i x).1.roots = s.roots := by
  unfold setF
  split
  · exact ⟨rfl, rfl⟩
  · split
    · exact ⟨rfl, rfl⟩
    · split
      · split
        · exact ⟨rfl, rfl⟩
        · exact setObj_len _ _
      · exact setObj_len _ _
theorem setBytesF_len (r : Nat) (f : Int) (cs : List Nat) : (s.setBytesF r f cs).1.objs.length = s.objs.length ∧ (s.setBytesF r f cs).1.roots = s.roots := by
  unfold setBytesF
  split
  · exact setObj_len _ _
  · exact ⟨rfl, rfl⟩
theorem putF_len (n : Int) (r : Nat) : (s.putF n r).1.objs.length = s.objs.length ∧ (s.putF n r).1.roots.length = s.roots.length := by
  unfold putF
  split
  · exact ⟨rfl, rfl⟩
  · split
    · exact ⟨rfl, by unfold withRoots; simp⟩
    · exact ⟨rfl, rfl⟩
theorem dropF_len (n : Int) : (s.dropF n).1.objs.length = s.objs.length ∧ (s.dropF n).1.roots.length = s.roots.length := by
  unfold dropF
  split
  · exact ⟨rfl, rfl⟩
  · exact ⟨rfl, by unfold withRoots; simp⟩
theorem rootF_len (r : Nat) : (s.rootF r).1.objs.length = s.objs.length ∧ (s.rootF r).1.roots.length ≤ s.roots.length + 1 := by
  unfold rootF
  split
  · refine ⟨rfl, ?_⟩
    unfold withRoots
    dsimp only
    split <;> simp
  · exact ⟨rfl, Nat.le_succ _⟩
theorem addBig_len (k r w : Nat) : (s.addBig k r w).objs.length = s.objs.length + 1 ∧ (s.addBig k r w).roots = s.roots := ⟨by unfold addBig; simp, rfl⟩
theorem alloc_len (k r w : Int) : (s.alloc k r w).1.objs.length ≤ s.objs.length + 1 ∧ (s.alloc k r w).1.roots = s.roots := by
  unfold alloc
  split
  · split
    · unfold block
      have h1 : (s.block1 (2 + r.toNat + w.toNat)).objs.length = s.objs.length ∧ (s.block1 (2 + r.toNat + w.toNat)).roots = s.roots := by
        unfold block1
        split
        · exact collect_len
        · exact ⟨rfl, rfl⟩
      unfold block2
      generalize hg : s.block1 (2 + r.toNat + w.toNat) = g at h1
      obtain ⟨g1, g2⟩ := h1
      split
      · split
        · exact ⟨by show g.objs.length ≤ _; omega, g2⟩
        · have := addBig_len (s := g.become ((g.limit - g.large - (2 + r.toNat + w.toNat)) / 2)) k.toNat r.toNat w.toNat
          have h2 := become_len (s := g) ((g.limit - g.large - (2 + r.toNat + w.toNat)) / 2)
          exact ⟨by rw [this.1, h2.1]; omega, this.2.trans (h2.2.trans g2)⟩
      · have := addBig_len (s := g) k.toNat r.toNat w.toNat
        exact ⟨by rw [this.1]; omega, this.2.trans g2⟩
    · have h1 : (s.small1 (1 + r.toNat + w.toNat)).objs.length = s.objs.length ∧ (s.small1 (1 + r.toNat + w.toNat)).roots = s.roots := by
        unfold small1
        split
        · exact ⟨(fit_len _).1.trans coll_len.1, (fit_len _).2.trans coll_len.2⟩
        · exact ⟨rfl, rfl⟩
      generalize s.small1 (1 + r.toNat + w.toNat) = g at h1
      unfold small2
      split
      · exact ⟨by show g.objs.length ≤ _; omega, h1.2⟩
      · refine ⟨?_, h1.2⟩
        unfold addSmall
        simp
        omega
  · exact ⟨by show s.objs.length ≤ _; omega, rfl⟩
theorem atF_lt (v : s.Inv) (n : Int) : (s.atF n).1 < 18446744073709551616 := by
  unfold atF
  cases h : s.hand n with
  | none => exact (by omega : (0 : Nat) < 18446744073709551616)
  | some id => exact ref_lt v (hand_here v h)
theorem become_lim (n : Nat) : (s.become n).limit = s.limit := by unfold become; split <;> rfl
theorem fit_lim (n : Nat) : (s.fit n).limit = s.limit := by
  unfold fit
  split
  · split
    · exact become_lim _
    · rfl
  · split
    · exact become_lim _
    · rfl
theorem collect_lim : s.collect.limit = s.limit := fit_lim (s := s.collection) 0
theorem resize_lim (n : Int) : (s.resize n).1.limit = s.limit := by
  unfold resize
  split
  · rfl
  · split
    · rfl
    · exact become_lim (s := s.collection) _
theorem setF_lim (r : Nat) (i : Int) (x : Nat) : (s.setF r i x).1.limit = s.limit := by
  unfold setF
  split
  · rfl
  · split
    · rfl
    · split
      · split <;> rfl
      · rfl
theorem setBytesF_lim (r : Nat) (f : Int) (cs : List Nat) : (s.setBytesF r f cs).1.limit = s.limit := by unfold setBytesF; split <;> rfl
theorem putF_lim (n : Int) (r : Nat) : (s.putF n r).1.limit = s.limit := by
  unfold putF
  split
  · rfl
  · split <;> rfl
theorem dropF_lim (n : Int) : (s.dropF n).1.limit = s.limit := by unfold dropF; split <;> rfl
theorem rootF_lim (r : Nat) : (s.rootF r).1.limit = s.limit := by unfold rootF; split <;> rfl
theorem alloc_lim (k r w : Int) : (s.alloc k r w).1.limit = s.limit := by
  unfold alloc
  split
  · split
    · unfold block
      have h1 : (s.block1 (2 + r.toNat + w.toNat)).limit = s.limit := by
        unfold block1
        split
        · exact collect_lim
        · rfl
      generalize s.block1 (2 + r.toNat + w.toNat) = g at h1
      unfold block2
      split
      · split
        · exact h1
        · exact (become_lim (s := g) _).trans h1
      · exact h1
    · have h1 : (s.small1 (1 + r.toNat + w.toNat)).limit = s.limit := by
        unfold small1
        split
        · exact fit_lim (s := s.collection) _
        · rfl
      generalize s.small1 (1 + r.toNat + w.toNat) = g at h1
      unfold small2
      split
      · exact h1
      · exact h1
  · rfl
/-- The slots grow no faster than the objects. -/
def RzI (s : RS) : Prop := -9223372036854775808 ≤ s.resz ∧ s.resz < 9223372036854775808
def Sl2 (t s : RS) : Prop := t.slots.length + s.objs.length ≤ s.slots.length + t.objs.length ∧ (RzI s → RzI t)
/-- The limit, and as many objects as slots. -/
def Lim (l : Int) (s : RS) : Prop := l = ((s.limit : Nat) : Int) ∧ s.slots.length < s.objs.length ∧ RzI s
theorem Lim.of {t : RS} {l : Int} (h1 : t.limit = s.limit) (h2 : Sl2 t s) (h : Lim l s) : Lim l t := ⟨by rw [h1]; exact h.1, by have := h.2.1; have := h2.1; omega, h2.2 h.2.2⟩
theorem Sl2.refl (s : RS) : Sl2 s s := ⟨Nat.le_refl _, _root_.id⟩
theorem Sl2.trans {t u : RS} (h : Sl2 t s) (k : Sl2 u t) : Sl2 u s := ⟨by have := h.1; have := k.1; omega, fun q => k.2 (h.2 q)⟩
theorem Sl2.eq {t : RS} (h1 : t.slots = s.slots) (h2 : t.objs.length = s.objs.length) (h3 : t.resz = s.resz) : Sl2 t s := ⟨by rw [h1, h2]; exact Nat.le_refl _, fun q => by unfold RzI; rw [h3]; exact q⟩
theorem wrap_i64_in (x : Int) : -9223372036854775808 ≤ IntKind.wrap .i64 x ∧ IntKind.wrap .i64 x < 9223372036854775808 := by
  rw [wrap_i64_eq]
  split <;> omega
theorem become_sl (n : Nat) : Sl2 (s.become n) s := by
  unfold become
  split
  · exact Sl2.refl _
  · exact ⟨Nat.le_refl _, fun _ => wrap_i64_in _⟩
theorem fit_sl (n : Nat) : Sl2 (s.fit n) s := by
  unfold fit
  split
  · split
    · exact become_sl _
    · exact Sl2.refl _
  · split
    · exact become_sl _
    · exact Sl2.refl _
theorem coll_sl : Sl2 s.collection s := ⟨by unfold collection; simp, _root_.id⟩
theorem collect_sl : Sl2 s.collect s := coll_sl.trans (fit_sl (s := s.collection) 0)
theorem resize_sl (n : Int) : Sl2 (s.resize n).1 s := by
  unfold resize
  split
  · exact Sl2.refl _
  · split
    · exact coll_sl
    · exact coll_sl.trans (become_sl (s := s.collection) _)
theorem setObj_sl (id : Nat) (o : RObj) : Sl2 (s.setObj id o) s := Sl2.eq rfl (setObj_len id o).1 rfl
theorem setF_sl (r : Nat) (i : Int) (x : Nat) : Sl2 (s.setF r i x).1 s := by
  unfold setF
  split
  · exact Sl2.refl _
  · split
    · exact Sl2.refl _
    · split
      · split
        · exact Sl2.refl _
        · exact setObj_sl _ _
      · exact setObj_sl _ _
theorem setBytesF_sl (r : Nat) (f : Int) (cs : List Nat) : Sl2 (s.setBytesF r f cs).1 s := by
  unfold setBytesF
  split
  · exact setObj_sl _ _
  · exact Sl2.refl _
theorem putF_sl (n : Int) (r : Nat) : Sl2 (s.putF n r).1 s := by
  unfold putF
  split
  · exact Sl2.refl _
  · split <;> exact Sl2.refl _
theorem dropF_sl (n : Int) : Sl2 (s.dropF n).1 s := by unfold dropF; split <;> exact Sl2.refl _
theorem rootF_sl (r : Nat) : Sl2 (s.rootF r).1 s := by unfold rootF; split <;> exact Sl2.refl _
theorem addBig_sl (k r w : Nat) : Sl2 (s.addBig k r w) s := by
  refine ⟨?_, _root_.id⟩
  unfold addBig
  dsimp only
  split <;> simp <;> omega
theorem addSmall_sl (k r w : Nat) : Sl2 (s.addSmall k r w) s := ⟨by unfold addSmall; simp, _root_.id⟩
theorem alloc_sl (k r w : Int) : Sl2 (s.alloc k r w).1 s := by
  unfold alloc
  split
  · split
    · unfold block
      have h1 : Sl2 (s.block1 (2 + r.toNat + w.toNat)) s := by
        unfold block1
        split
        · exact collect_sl
        · exact Sl2.refl _
      generalize s.block1 (2 + r.toNat + w.toNat) = g at h1
      unfold block2
      split
      · split
        · exact h1
        · exact h1.trans ((become_sl (s := g) _).trans (addBig_sl _ _ _))
      · exact h1.trans (addBig_sl _ _ _)
    · have h1 : Sl2 (s.small1 (1 + r.toNat + w.toNat)) s := by
        unfold small1
        split
        · exact coll_sl.trans (fit_sl (s := s.collection) _)
        · exact Sl2.refl _
      generalize s.small1 (1 + r.toNat + w.toNat) = g at h1
      unfold small2
      split
      · exact h1
      · exact h1.trans (addSmall_sl _ _ _)
  · exact Sl2.refl _
theorem collect_lm {l : Int} (h : Lim l s) : Lim l s.collect := Lim.of (collect_lim ) (collect_sl ) h
theorem resize_lm {n : Int} {l : Int} (h : Lim l s) : Lim l (s.resize n).1 := Lim.of (resize_lim n) (resize_sl n) h
theorem setF_lm {r : Nat} {i : Int} {x : Nat} {l : Int} (h : Lim l s) : Lim l (s.setF r i x).1 := Lim.of (setF_lim r i x) (setF_sl r i x) h
theorem setBytesF_lm {r : Nat} {f : Int} {cs : List Nat} {l : Int} (h : Lim l s) : Lim l (s.setBytesF r f cs).1 := Lim.of (setBytesF_lim r f cs) (setBytesF_sl r f cs) h
theorem putF_lm {n : Int} {r : Nat} {l : Int} (h : Lim l s) : Lim l (s.putF n r).1 := Lim.of (putF_lim n r) (putF_sl n r) h
theorem dropF_lm {n : Int} {l : Int} (h : Lim l s) : Lim l (s.dropF n).1 := Lim.of (dropF_lim n) (dropF_sl n) h
theorem rootF_lm {r : Nat} {l : Int} (h : Lim l s) : Lim l (s.rootF r).1 := Lim.of (rootF_lim r) (rootF_sl r) h
theorem alloc_lm {k r w : Int} {l : Int} (h : Lim l s) : Lim l (s.alloc k r w).1 := Lim.of (alloc_lim k r w) (alloc_sl k r w) h
end
end RS
end Go.Ev
set_option linter.all false
set_option maxRecDepth 100000
namespace Go.Ev
open Go.Proofs
theorem eqw_ok {h : Hp} {a b : Sl} {l : List Nat} (ha : ReadsO h a.a (l.map uv)) (hb : ReadsO h b.a (l.map uv)) (na : a.n = l.length) (nb : b.n = l.length) (hn : l.length < 9223372036854775807) {R : Value → Hp → Prop} (hR : R (.bool true) h) :
    CallTo Try.prog 24 #[.slice a.a a.n a.c, .slice b.a b.n b.c] h R := by
  refine f24F_ok ?_
  unfold f24F
  refine Cond_f (by rw [na, nb]; simp) ?_
  refine f24L1_rule (s0 := a) (s1 := b) (fun q s0 s1 s5 h' => ∃ i : Nat, i ≤ l.length ∧ q = l.length - i ∧ s0 = a ∧ s1 = b ∧ s5 = (i : Int) ∧ h' = h) l.length ⟨0, Nat.zero_le _, rfl, rfl, rfl, rfl, rfl⟩ ?_
  rintro q s0 s1 s5 g0 h2 ⟨i, hi, rfl, rfl, rfl, rfl, rfl⟩
  unfold f24L1
  refine Cond_dec (fun hlt => ?_) (fun _ => hR)
  have hil : i < l.length := by rw [na] at hlt; omega
  have e0 : (l.map uv)[i]? = some (uv l[i]) := by rw [List.getElem?_map, List.getElem?_eq_getElem hil]; rfl
  obtain ⟨p, hp, cp⟩ := readsO_get ha e0
  obtain ⟨p', hp', cp'⟩ := readsO_get hb e0
  refine ⟨⟨by omega, hlt⟩, PtrOk_mk' hp ⟨_, by rw [Int.toNat_natCast, Nat.mul_one]; exact cp, ⟨by omega, by rw [nb]; omega⟩, PtrOk_mk' hp' ⟨_, by rw [Int.toNat_natCast, Nat.mul_one]; exact cp', Cond_f (by simp) ?_⟩⟩⟩
  refine ⟨l.length - (i + 1), by omega, i + 1, hil, rfl, rfl, rfl, ?_, rfl⟩
  rw [wrap_i64' (by omega) (by omega)]; rfl
theorem cmp_ok {h : Hp} {a b : Sl} {l : List Nat} (ha : ReadsO h a.a (l.map bv)) (hb : ReadsO h b.a (l.map bv)) (na : a.n = l.length) (nb : b.n = l.length) (hn : l.length < 9223372036854775807) {R : Value → Hp → Prop} (hR : R (.int .i64 0) h) :
    CallTo Try.prog 113 #[.slice a.a a.n a.c, .slice b.a b.n b.c] h R := by
  refine f113F_ok ?_
  unfold f113F
  refine f113L1_rule (s0 := a) (s1 := b) (fun q s0 s1 s5 h' => ∃ i : Nat, i ≤ l.length ∧ q = l.length - i ∧ s0 = a ∧ s1 = b ∧ s5 = (i : Int) ∧ h' = h) l.length ⟨0, Nat.zero_le _, rfl, rfl, rfl, rfl, rfl⟩ ?_
  rintro q s0 s1 s5 g0 h2 ⟨i, hi, rfl, rfl, rfl, rfl, rfl⟩
  have hend : ∀ J, ¬ i < l.length → f113K1 J (l.length - i) s0 s1 (i : Int) false h2 R := fun J _ => by
    unfold f113K1
    refine Cond_f rfl (Cond_f (by rw [na, nb]; simp) (Cond_f (by rw [na, nb]; simp) hR))
  unfold f113L1
  refine Cond_dec (fun hlt => ?_) (fun hlt => hend _ (by rw [na] at hlt; omega))
  have hil : i < l.length := by rw [na] at hlt; omega
  have e0 : (l.map bv)[i]? = some (bv l[i]) := by rw [List.getElem?_map, List.getElem?_eq_getElem hil]; rfl
  obtain ⟨p, hp, cp⟩ := readsO_get ha e0
  obtain ⟨p', hp', cp'⟩ := readsO_get hb e0
  unfold f113K1
  refine Cond_t (by rw [nb]; exact decide_eq_true (by omega)) ?_
  refine ⟨⟨by omega, hlt⟩, PtrOk_mk' hp ⟨_, by rw [Int.toNat_natCast, Nat.mul_one]; exact cp, ⟨by omega, by rw [nb]; omega⟩, PtrOk_mk' hp' ⟨_, by rw [Int.toNat_natCast, Nat.mul_one]; exact cp', Cond_f (by simp) ?_⟩⟩⟩
  refine ⟨⟨by omega, hlt⟩, PtrOk_mk' hp ⟨_, by rw [Int.toNat_natCast, Nat.mul_one]; exact cp, ⟨by omega, by rw [nb]; omega⟩, PtrOk_mk' hp' ⟨_, by rw [Int.toNat_natCast, Nat.mul_one]; exact cp', Cond_f (by simp) ?_⟩⟩⟩
  refine ⟨l.length - (i + 1), by omega, i + 1, hil, rfl, rfl, rfl, ?_, rfl⟩
  rw [wrap_i64' (by omega) (by omega)]; rfl
theorem eqb_ok {h : Hp} {a b : Sl} {l : List Nat} (ha : ReadsO h a.a (l.map bv)) (hb : ReadsO h b.a (l.map bv)) (na : a.n = l.length) (nb : b.n = l.length) (hn : l.length < 9223372036854775807) {R : Value → Hp → Prop} (hR : R (.bool true) h) :
    CallTo Try.prog 98 #[.slice a.a a.n a.c, .slice b.a b.n b.c] h R := by
  refine f98F_ok ?_
  unfold f98F
  exact cmp_ok ha hb na nb hn ⟨_, rfl, hR⟩
/-- Copy: new memory with the same bytes. -/
theorem copy_ok {h : Hp} {a : Sl} {l : List Nat} (ha : ReadsO h a.a (l.map bv)) (na : a.n = l.length) (hn : l.length < 140737488355328) {R : Value → Hp → Prop}
    (hR : ∀ b h', Row h' b (l.map bv) → h.size ≤ b → Kept N h h' → R (.slice (some (ad b)) l.length l.length) h') : CallTo Try.prog 107 #[.slice a.a a.n a.c] h R := by
  refine f107F_ok ?_
  unfold f107F
  rw [na]
  refine ⟨⟨by omega, by omega⟩, by omega, by omega, Let_mk fun h1 e1 => ?_⟩
  rw [Int.toNat_natCast] at e1 ⊢
  have k1 : Kept N h h1 := e1 ▸ kept_push _ _ _
  have row1 : Row h1 h.size (List.replicate l.length (.int .u8 0)) := by
    have e2 := e1
    rw [zrow_one] at e2
    exact e2 ▸ row_new h (List.replicate l.length (.int .u8 0)).toArray 5
  have enb : nb h = ad h.size := rfl
  rw [enb]
  refine ⟨l.map bv, reads_keptN k1 ha, by rw [List.length_map]; omega, ?_⟩
  have key : ∀ h2, Row h2 h.size (l.map bv) → Kept N h h2 → R (.slice (some (ad h.size)) l.length l.length) h2 := fun h2 r2 k2 => hR _ h2 r2 (Nat.le_refl _) k2
  show stsOk h1 ((ad h.size).add 0) _ 0 ∧ R _ (setcs h1 ((ad h.size).add 0) _ 0)
  rw [add_ad]
  refine ⟨stsOk_row _ _ _ 0 0 row1 (by simp) (fun v hv => by obtain ⟨x, _, rfl⟩ := List.mem_map.1 hv; rfl), key _ ?_ ⟨by rw [size_setcs]; exact k1.1, fun b hb _ => (setcs_ne _ _ _ _ (by omega)).trans (k1.2 b hb id)⟩⟩
  have := row_setcs (l.map bv) h1 _ 0 0 row1 (by simp)
  have e : ovw (List.replicate l.length (.int .u8 0)) (0 + 0) (l.map bv) = l.map bv := by unfold ovw; simp
  rw [e] at this
  exact this
theorem twin_ok {h : Hp} {a : Sl} {l : List Nat} (ha : ReadsO h a.a (l.map bv)) (na : a.n = l.length) (hn : l.length < 140737488355328) {R : Value → Hp → Prop}
    (hR : ∀ s : Sl, ∀ h', ReadsO h' s.a (l.map bv) → s.n = l.length → (∀ p, s.a = some p → h.size ≤ p.block ∧ p.block < h'.size) → Kept N h h' → R (.slice s.a s.n s.c) h') : CallTo Try.prog 82 #[.slice a.a a.n a.c] h R := by
  refine f82F_ok ?_
  unfold f82F
  refine Cond_b (fun hn0 => ?_) fun hn0 => ?_
  · rw [Option.isNone_iff_eq_none] at hn0
    rw [hn0] at ha
    refine hR ⟨none, 0, 0⟩ h ha ?_ nofun (Kept.refl _ _)
    have : l.map bv = [] := ha
    rw [List.map_eq_nil_iff.1 this]
    rfl
  · exact copy_ok ha na hn fun b h' r1 hb k => ⟨⟨some (ad b), l.length, l.length⟩, rfl, hR ⟨some (ad b), l.length, l.length⟩ h' (row_reads r1) rfl (fun p hp => by obtain rfl := Option.some.inj hp; exact ⟨hb, row_lt r1⟩) k⟩
end Go.Ev
