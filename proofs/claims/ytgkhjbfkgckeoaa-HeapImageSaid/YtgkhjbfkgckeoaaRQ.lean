/- The document's heap in memory, as the plain data RS. No condition but that it is one. -/
import Derived.Test.YtgkhjbfkgckeoaaHM
import Derived.Test.YtgkhjbfkgckeoaaHZ
import Derived.Test.YtgkhjbfkgckeoaaGR
set_option linter.all false
set_option maxRecDepth 100000
namespace Go.Ev
structure Mem where
  loc : Nat → Option Nat
  cont : Nat → List Value
structure Sep (h : Hp) (M : Mem) : Prop where
  row : ∀ x b, M.loc x = some b → Row h b (M.cont x)
  inj : ∀ x y b, M.loc x = some b → M.loc y = some b → x = y
def Mem.own (M : Mem) (b : Nat) : Prop := ∃ x, M.loc x = some b
def Mem.upd (M : Mem) (x : Nat) (b : Option Nat) (c : List Value) : Mem := ⟨fun y => if y = x then b else M.loc y, fun y => if y = x then c else M.cont y⟩
theorem Mem.loc_self (M : Mem) (x : Nat) (b : Option Nat) (c : List Value) : (M.upd x b c).loc x = b := if_pos rfl
theorem Mem.cont_self (M : Mem) (x : Nat) (b : Option Nat) (c : List Value) : (M.upd x b c).cont x = c := if_pos rfl
theorem Mem.loc_ne (M : Mem) {x y : Nat} (b : Option Nat) (c : List Value) (h : y ≠ x) : (M.upd x b c).loc y = M.loc y := if_neg h
theorem Mem.cont_ne (M : Mem) {x y : Nat} (b : Option Nat) (c : List Value) (h : y ≠ x) : (M.upd x b c).cont y = M.cont y := if_neg h
/-- What a call that works on the parts may change. -/
def Chg (h : Hp) (M : Mem) (h' : Hp) (M' : Mem) : Prop := Kept M.own h h' ∧ ∀ b, M'.own b → M.own b ∨ h.size ≤ b
section
variable {h h' h2 : Hp} {M M' M2 : Mem}
theorem Chg.refl (h : Hp) (M : Mem) : Chg h M h M := ⟨Kept.refl _ _, fun _ => .inl⟩
theorem Chg.trans (a : Chg h M h' M') (b : Chg h' M' h2 M2) : Chg h M h2 M2 :=
  ⟨⟨Nat.le_trans a.1.1 b.1.1, fun i hi hn => (b.1.2 i (Nat.lt_of_lt_of_le hi a.1.1) fun o => (a.2 i o).elim hn fun h => by omega).trans (a.1.2 i hi hn)⟩,
    fun i o => (b.2 i o).elim (a.2 i) fun h => .inr (Nat.le_trans a.1.1 h)⟩
theorem Chg.of_kept (k : Kept (fun _ => False) h h') : Chg h M h' M := ⟨k.mono fun _ _ e => e.elim, fun _ => .inl⟩
theorem Sep.lt (s : Sep h M) {x b : Nat} (hx : M.loc x = some b) : b < h.size := row_lt (s.row x b hx)
theorem Sep.own_lt (s : Sep h M) {b : Nat} (hb : M.own b) : b < h.size := by obtain ⟨x, hx⟩ := hb; exact s.lt hx
theorem Sep.keep (s : Sep h M) {S : Nat → Prop} (k : Kept S h h') (hS : ∀ b, M.own b → ¬ S b) : Sep h' M := ⟨fun x b hx => kept_row k (s.row x b hx) (hS b ⟨x, hx⟩), s.inj⟩
theorem Sep.keepN (s : Sep h M) (k : Kept (fun _ => False) h h') : Sep h' M := s.keep k fun _ _ e => e
theorem Sep.cell (s : Sep h M) {x b : Nat} (hx : M.loc x = some b) (o : Nat) : Go.Ev.cell h ⟨b, o, none⟩ = (M.cont x)[o]? := cell_row (s.row x b hx) o
theorem Sep.cellA (s : Sep h M) {x b : Nat} (hx : M.loc x = some b) (o : Nat) : Go.Ev.cell h ((ad b).add o) = (M.cont x)[o]? := by rw [add_ad]; exact s.cell hx o
theorem Sep.cell0 (s : Sep h M) {x b : Nat} (hx : M.loc x = some b) : Go.Ev.cell h (ad b) = (M.cont x)[0]? := s.cell hx 0
/-- One cell of a part is written. -/
theorem Sep.st (s : Sep h M) {x b o : Nat} (hx : M.loc x = some b) {a : Addr} {v : Value} (ha : a = ⟨b, o, none⟩) (ho : o < (M.cont x).length) {K : Hp → Prop}
    (hK : ∀ h', Sep h' (M.upd x (some b) ((M.cont x).set o v)) → Chg h M h' (M.upd x (some b) ((M.cont x).set o v)) → K h') : stOk h a ∧ Let (setc h a v) fun h' => K h' := by
  subst ha
  refine ⟨stOk_row (s.row x b hx) ho, hK _ ⟨fun y c hy => ?_, fun y z c hy hz => ?_⟩ ⟨?_, fun c hc => ?_⟩⟩
  · by_cases e : y = x
    · subst e
      rw [Mem.loc_self] at hy
      obtain rfl := Option.some.inj hy
      rw [Mem.cont_self]
      exact row_setc (s.row y b hx) o v
    · rw [Mem.loc_ne _ _ _ e] at hy
      rw [Mem.cont_ne _ _ _ e]
      exact row_setc_ne (s.row y c hy) v fun (e' : c = b) => e (s.inj y x b (e' ▸ hy) hx)
  · have loc : ∀ w, (M.upd x (some b) ((M.cont x).set o v)).loc w = some c → M.loc w = some c := fun w hw => by
      by_cases e : w = x
      · subst e; rw [Mem.loc_self] at hw; rw [hx]; exact hw
      · rwa [Mem.loc_ne _ _ _ e] at hw
    exact s.inj y z c (loc y hy) (loc z hz)
  · exact kept_setc h o v ⟨x, hx⟩
  · obtain ⟨y, hy⟩ := hc
    by_cases e : y = x
    · subst e; rw [Mem.loc_self] at hy; obtain rfl := Option.some.inj hy; exact .inl ⟨y, hx⟩
    · rw [Mem.loc_ne _ _ _ e] at hy; exact .inl ⟨y, hy⟩
/-- A part's block is another, new one (or none). -/
theorem Sep.renew (s : Sep h M) {x : Nat} {ob : Option Nat} {c : List Value} (k : Kept (fun b => M.loc x = some b) h h') (hr : ∀ b, ob = some b → Row h' b c) (hn : ∀ b, ob = some b → M.loc x = some b ∨ h.size ≤ b) :
    Sep h' (M.upd x ob c) ∧ Chg h M h' (M.upd x ob c) := by
  have lo : ∀ y c', y ≠ x → M.loc y = some c' → c' < h.size := fun y c' _ hy => s.lt hy
  refine ⟨⟨fun y c' hy => ?_, fun y z c' hy hz => ?_⟩, ⟨k.mono fun b _ e => ⟨x, e⟩, fun b hb => ?_⟩⟩
  · by_cases e : y = x
    · subst e
      rw [Mem.loc_self] at hy
      rw [Mem.cont_self]
      exact hr c' hy
    · rw [Mem.loc_ne _ _ _ e] at hy
      rw [Mem.cont_ne _ _ _ e]
      exact kept_row k (s.row y c' hy) fun e' => e (s.inj y x c' hy e')
  · by_cases e : y = x <;> by_cases e2 : z = x
    · rw [e, e2]
    · subst e
      rw [Mem.loc_self] at hy
      rw [Mem.loc_ne _ _ _ e2] at hz
      rcases hn c' hy with h1 | h1
      · exact absurd (s.inj z y c' hz h1) e2
      · have := s.lt hz; omega
    · subst e2
      rw [Mem.loc_self] at hz
      rw [Mem.loc_ne _ _ _ e] at hy
      rcases hn c' hz with h1 | h1
      · exact absurd (s.inj y z c' hy h1) e
      · have := s.lt hy; omega
    · rw [Mem.loc_ne _ _ _ e] at hy
      rw [Mem.loc_ne _ _ _ e2] at hz
      exact s.inj y z c' hy hz
  · obtain ⟨y, hy⟩ := hb
    by_cases e : y = x
    · subst e
      rw [Mem.loc_self] at hy
      exact (hn b hy).imp_left fun h => ⟨y, h⟩
    · rw [Mem.loc_ne _ _ _ e] at hy; exact .inl ⟨y, hy⟩
theorem Sep.push (s : Sep h M) (x : Nat) (arr : Array Value) (t : TypeId) : Sep (h.push (.cells arr t)) (M.upd x (some h.size) arr.toList) ∧ Chg h M (h.push (.cells arr t)) (M.upd x (some h.size) arr.toList) :=
  s.renew (kept_push _ _ _) (fun b e => by obtain rfl := Option.some.inj e; exact row_new h arr t) fun b e => .inr (by obtain rfl := Option.some.inj e; exact Nat.le_refl _)
theorem Sep.drop (s : Sep h M) (x : Nat) (c : List Value) : Sep h (M.upd x none c) ∧ Chg h M h (M.upd x none c) := s.renew (Kept.refl _ _) (fun b e => by cases e) fun b e => by cases e
end
/-- A slice over a part. -/
structure IsSl (sz : Nat) (M : Mem) (x : Nat) (s : Sl) (vs : List Value) : Prop where
  len : vs.length = s.n * sz
  nil : M.loc x = none → s.a = none ∧ s.n = 0 ∧ s.c = 0
  row : ∀ b, M.loc x = some b → s.a = some (ad b) ∧ s.n ≤ s.c ∧ ∃ junk, M.cont x = vs ++ junk ∧ vs.length + junk.length = s.c * sz
section
variable {h h' : Hp} {M M' : Mem} {sz x y : Nat} {s : Sl} {vs : List Value}
theorem IsSl.slAt (i : IsSl sz M x s vs) (p : Sep h M) : SlAt sz h s.a s.n s.c (M.loc x) vs :=
  ⟨i.len, i.nil, fun b hb => by obtain ⟨h1, h2, j, h3, h4⟩ := i.row b hb; exact ⟨h1, h2, j, by rw [← h3]; exact p.row x b hb, h4⟩⟩
theorem IsSl.other (i : IsSl sz M y s vs) {b : Option Nat} {c : List Value} (h : y ≠ x) : IsSl sz (M.upd x b c) y s vs :=
  ⟨i.len, fun e => i.nil (by rwa [Mem.loc_ne _ _ _ h] at e), fun b' e => by
    rw [Mem.loc_ne _ _ _ h] at e
    rw [Mem.cont_ne _ _ _ h]
    exact i.row b' e⟩
theorem IsSl.nilSl (M : Mem) (sz x : Nat) (c : List Value) : IsSl sz (M.upd x none c) x ⟨none, 0, 0⟩ [] := ⟨by simp, fun _ => ⟨rfl, rfl, rfl⟩, fun b e => by rw [Mem.loc_self] at e; cases e⟩
theorem IsSl.some_of (i : IsSl sz M x s vs) (hn : vs ≠ []) : ∃ b, M.loc x = some b ∧ s.a = some (ad b) := by
  cases hl : M.loc x with
  | none =>
    have := (i.nil hl).2.1
    have := i.len
    exact absurd (List.length_eq_zero_iff.1 (by rw [i.len, ‹s.n = 0›]; omega)) hn
  | some b => exact ⟨b, rfl, (i.row b hl).1⟩
/-- A cell of a slice. -/
theorem IsSl.at (i : IsSl sz M x s vs) (p : Sep h M) {o : Nat} {v : Value} (hv : vs[o]? = some v) : ∃ b, M.loc x = some b ∧ s.a = some (ad b) ∧ cell h ⟨b, o, none⟩ = some v := by
  have ho := (List.getElem?_eq_some_iff.1 hv).1
  obtain ⟨b, hb, ha⟩ := i.some_of (fun e => by rw [e] at ho; simp at ho)
  obtain ⟨_, _, j, h3, _⟩ := i.row b hb
  exact ⟨b, hb, ha, by rw [p.cell hb, h3, List.getElem?_append_left ho]; exact hv⟩
/-- A cell of a slice is written. -/
theorem IsSl.set (i : IsSl sz M x s vs) {b o : Nat} (hb : M.loc x = some b) (v : Value) (ho : o < vs.length) : o < (M.cont x).length ∧ IsSl sz (M.upd x (some b) ((M.cont x).set o v)) x s (vs.set o v) := by
  obtain ⟨h1, h2, j, h3, h4⟩ := i.row b hb
  refine ⟨by rw [h3, List.length_append]; omega, ⟨by rw [List.length_set]; exact i.len, (fun e => by rw [Mem.loc_self] at e; cases e), fun b' e => ?_⟩⟩
  rw [Mem.loc_self] at e
  obtain rfl := Option.some.inj e
  rw [Mem.cont_self]
  exact ⟨h1, h2, j, by rw [h3, List.set_append_left _ _ ho], by rw [List.length_set]; exact h4⟩
/-- append -/
theorem IsSl.app {e bys : Nat} {z : Array Value} {m : Nat} {news : List Value} {K : Option Addr → Nat → Nat → Hp → Prop} (i : IsSl sz M x s vs) (p : Sep h M) (hz : z.size = sz) (hl : news.length = m * sz) (hcell : ∀ v ∈ news, isCell v = true)
    (hby : (2 * (s.n + m) + 768) * bys ≤ 2 ^ 48) (hlt : s.n + m < 2 ^ 62)
    (hK : ∀ a' c' h' ob c, Sep h' (M.upd x ob c) → IsSl sz (M.upd x ob c) x ⟨a', s.n + m, c'⟩ (vs ++ news) → Chg h M h' (M.upd x ob c) → K a' (s.n + m) c' h') : appT e sz bys z s.a s.n s.c (s.n + m) news h K := by
  refine appT_ok2 (i.slAt p) hz hl hcell hby hlt fun a' c' ob' h' s' hcase => ?_
  have fin : ∀ c, (∀ b, ob' = some b → Row h' b c) → (∀ b, ob' = some b → a' = some (ad b) ∧ s.n + m ≤ c' ∧ ∃ junk, c = (vs ++ news) ++ junk ∧ (vs ++ news).length + junk.length = c' * sz) → K a' (s.n + m) c' h' := fun c hr hs => by
    have k : Kept (fun b => M.loc x = some b) h h' := by
      rcases hcase with ⟨_, k⟩ | ⟨_, k⟩
      · exact k
      · exact k.mono fun _ _ e => e.elim
    have hn : ∀ b, ob' = some b → M.loc x = some b ∨ h.size ≤ b := fun b e => by
      rcases hcase with ⟨q, _⟩ | ⟨q, _⟩
      · exact .inl (q ▸ e)
      · rw [q] at e; obtain rfl := Option.some.inj e; exact .inr (Nat.le_refl _)
    obtain ⟨q1, q2⟩ := p.renew (x := x) k hr hn
    refine hK a' c' h' ob' c q1 ⟨s'.len, fun e => ?_, fun b e => ?_⟩ q2
    · rw [Mem.loc_self] at e; exact s'.nil e
    · rw [Mem.loc_self] at e
      rw [Mem.cont_self]
      exact hs b e
  cases ho : ob' with
  | none => exact fin [] (fun b e => by rw [ho] at e; cases e) fun b e => by rw [ho] at e; cases e
  | some b =>
    obtain ⟨q1, q2, j, q3, q4⟩ := s'.row b ho
    refine fin ((vs ++ news) ++ j) (fun b' e => ?_) fun b' e => ?_
    · rw [ho] at e; obtain rfl := Option.some.inj e; exact q3
    · rw [ho] at e; obtain rfl := Option.some.inj e; exact ⟨q1, q2, j, rfl, q4⟩
/-- append of one element that lies in a new block -/
theorem IsSl.app1 {e bys : Nat} {z : Array Value} {arr : Array Value} {t : TypeId} {K : Option Addr → Nat → Nat → Hp → Prop} (i : IsSl sz M x s vs) (p : Sep h M) (hz : z.size = sz) (hl : arr.toList.length = 1 * sz) (hcell : ∀ v ∈ arr.toList, isCell v = true)
    (hby : (2 * (s.n + 1) + 768) * bys ≤ 2 ^ 48) (hlt : s.n + 1 < 2 ^ 62)
    (hK : ∀ a' c' h' ob c, Sep h' (M.upd x ob c) → IsSl sz (M.upd x ob c) x ⟨a', s.n + 1, c'⟩ (vs ++ arr.toList) → Chg h M h' (M.upd x ob c) → K a' (s.n + 1) c' h') :
    Let (h.push (.cells arr t)) fun h2 => appSl e sz bys z s.a s.n s.c (some (nb h)) 1 h2 K := by
  show (fun h2 => appSl e sz bys z s.a s.n s.c (some (nb h)) 1 h2 K) (h.push (.cells arr t))
  generalize e2 : h.push (.cells arr t) = h2
  have e2 := e2.symm
  have k2 : Kept (fun _ => False) h h2 := e2 ▸ kept_push _ _ _
  have row2 : Row h2 h.size arr.toList := e2 ▸ row_new h arr t
  exact ⟨arr.toList, reads_row row2 (fun j v hj => by rw [Nat.zero_add]; exact hj), hl, i.app (p.keepN k2) hz hl hcell hby hlt fun a' c' h' ob c q1 q2 q3 => hK a' c' h' ob c q1 q2 ((Chg.of_kept k2).trans q3)⟩
end
end Go.Ev
set_option linter.all false
set_option maxRecDepth 100000
namespace Go.Ev
open Go.Proofs
theorem flat_len {α : Type} {f : α → List Value} {sz : Nat} (hf : ∀ x, (f x).length = sz) : ∀ l : List α, (l.flatMap f).length = l.length * sz
  | [] => by simp
  | x :: l => by rw [List.flatMap_cons, List.length_append, hf, flat_len hf l, List.length_cons, Nat.add_mul]; omega
theorem flat_at {α : Type} {f : α → List Value} {sz : Nat} (hf : ∀ x, (f x).length = sz) : ∀ (l : List α) (i j : Nat) (x : α), l[i]? = some x → j < sz → (l.flatMap f)[i * sz + j]? = (f x)[j]?
  | [], _, _, _, h, _ => by simp at h
  | y :: l, 0, j, x, h, hj => by
    obtain rfl : y = x := by simpa using h
    rw [List.flatMap_cons, Nat.zero_mul, Nat.zero_add, List.getElem?_append_left (by rw [hf]; exact hj)]
  | y :: l, i + 1, j, x, h, hj => by
    rw [List.flatMap_cons, List.getElem?_append_right (by rw [hf, Nat.add_mul]; omega), hf]
    have e : (i + 1) * sz + j - sz = i * sz + j := by rw [Nat.add_mul]; omega
    rw [e]
    exact flat_at hf l i j x (by simpa using h) hj
theorem flat_set {α : Type} {f : α → List Value} {sz : Nat} (hf : ∀ x, (f x).length = sz) : ∀ (l : List α) (i j : Nat) (x x' : α) (v : Value), l[i]? = some x → j < sz → f x' = (f x).set j v → (l.flatMap f).set (i * sz + j) v = (l.set i x').flatMap f
  | [], _, _, _, _, _, h, _, _ => by simp at h
  | y :: l, 0, j, x, x', v, h, hj, e => by
    obtain rfl : y = x := by simpa using h
    rw [List.flatMap_cons, Nat.zero_mul, Nat.zero_add, List.set_append_left _ _ (by rw [hf]; exact hj), List.set_cons_zero, List.flatMap_cons, e]
  | y :: l, i + 1, j, x, x', v, h, hj, e => by
    rw [List.flatMap_cons, List.set_append_right _ _ (by rw [hf, Nat.add_mul]; omega), hf, List.set_cons_succ, List.flatMap_cons]
    have e2 : (i + 1) * sz + j - sz = i * sz + j := by rw [Nat.add_mul]; omega
    rw [e2, flat_set hf l i j x x' v (by simpa using h) hj e]
structure RObjG where
  rs : Sl
  ws : Sl
  there : Bool
def ocells (p : RObj × RObjG) : List Value := [nv p.1.kind, slV p.2.rs, slV p.2.ws, .bool p.2.there, .bool p.1.big, nv p.1.pl]
theorem ocells_len (p : RObj × RObjG) : (ocells p).length = 6 := rfl
structure RGeo where
  gs : List RObjG
  os : Sl
  ss : Sl
  ls : Sl
  ts : Sl
def rootZ : Option Nat → Value
  | some id => nv id
  | none => .int .i64 (-1)
def rhd (s : RS) (g : RGeo) : List Value := [nv s.limit, nv s.half, nv s.used, nv s.large, nv s.since, nv s.kept, slV g.os, slV g.ss, slV g.ls, slV g.ts, .int .i64 s.coll, .int .i64 s.resz, nv s.moved]
structure RRep (M : Mem) (s : RS) (g : RGeo) : Prop where
  hd : M.cont 0 = rhd s g
  gl : g.gs.length = s.objs.length
  ob : IsSl 6 M 1 g.os ((s.objs.zip g.gs).flatMap ocells)
  sm : IsSl 1 M 2 g.ss (s.small.map nv)
  sl : IsSl 1 M 3 g.ls (s.slots.map nv)
  rt : IsSl 1 M 4 g.ts (s.roots.map rootZ)
  rf : ∀ i o go, s.objs[i]? = some o → g.gs[i]? = some go → IsSl 1 M (5 + 2 * i) go.rs (o.refs.map nv) ∧ IsSl 1 M (6 + 2 * i) go.ws (o.raws.map uv)
structure RT (h : Hp) (rb : Nat) (M : Mem) (s : RS) (g : RGeo) : Prop where
  sep : Sep h M
  loc : M.loc 0 = some rb
  rep : RRep M s g
section
variable {h h' : Hp} {rb : Nat} {M : Mem} {s : RS} {g : RGeo}
theorem RT.keep (r : RT h rb M s g) {S : Nat → Prop} (k : Kept S h h') (hS : ∀ b, M.own b → ¬ S b) : RT h' rb M s g := ⟨r.sep.keep k hS, r.loc, r.rep⟩
theorem RT.c (r : RT h rb M s g) (i : Nat) : cell h ((ad rb).add i) = (rhd s g)[i]? := by rw [r.sep.cellA r.loc, r.rep.hd]
theorem RT.c0 (r : RT h rb M s g) : cell h (ad rb) = some (nv s.limit) := by rw [r.sep.cell0 r.loc, r.rep.hd]; rfl
theorem RT.os_n (r : RT h rb M s g) : g.os.n = s.objs.length := by
  have := r.rep.ob.len
  rw [flat_len ocells_len, List.length_zip, r.rep.gl] at this
  omega
theorem RT.ss_n (r : RT h rb M s g) : g.ss.n = s.small.length := by have := r.rep.sm.len; rw [List.length_map] at this; omega
theorem RT.ls_n (r : RT h rb M s g) : g.ls.n = s.slots.length := by have := r.rep.sl.len; rw [List.length_map] at this; omega
theorem RT.ts_n (r : RT h rb M s g) : g.ts.n = s.roots.length := by have := r.rep.rt.len; rw [List.length_map] at this; omega
theorem RS.obj_get (s : RS) {id : Nat} (h : id < s.objs.length) : s.objs[id]? = some (s.obj id) := by
  unfold RS.obj
  rw [List.getD_eq_getElem?_getD, List.getElem?_eq_getElem h]; rfl
theorem RT.zip_get (r : RT h rb M s g) {id : Nat} (hid : id < s.objs.length) : ∃ go, g.gs[id]? = some go ∧ (s.objs.zip g.gs)[id]? = some (s.obj id, go) := by
  have hg : id < g.gs.length := by rw [r.rep.gl]; exact hid
  refine ⟨g.gs[id], List.getElem?_eq_getElem hg, ?_⟩
  rw [List.getElem?_zip_eq_some]
  exact ⟨s.obj_get hid, List.getElem?_eq_getElem hg⟩
/-- An object's cells. -/
theorem RT.obj (r : RT h rb M s g) {id : Nat} (hid : id < s.objs.length) : ∃ ob go, M.loc 1 = some ob ∧ g.gs[id]? = some go ∧ g.os.a = some (ad ob) ∧ ((0 : Int) ≤ (id : Int) ∧ (id : Int) < ((g.os.n : Nat) : Int)) ∧
    cell h ((ad ob).add (id * 6)) = some (nv (s.obj id).kind) ∧ (∀ j, j < 6 → cell h (((ad ob).add (id * 6)).add j) = (ocells (s.obj id, go))[j]?) ∧ IsSl 1 M (5 + 2 * id) go.rs ((s.obj id).refs.map nv) ∧ IsSl 1 M (6 + 2 * id) go.ws ((s.obj id).raws.map uv) := by
  obtain ⟨go, hg, hz⟩ := r.zip_get hid
  have e0 := flat_at ocells_len _ _ 0 _ hz (by omega)
  obtain ⟨b, hb, ha, hc⟩ := r.rep.ob.at r.sep (o := id * 6 + 0) (v := nv (s.obj id).kind) (by rw [e0]; rfl)
  obtain ⟨_, _, j0, q3, q4⟩ := r.rep.ob.row b hb
  have hn := r.os_n
  refine ⟨b, go, hb, hg, ha, ⟨by omega, by omega⟩, by rw [add_ad]; exact hc, fun j hj => ?_, r.rep.rf id _ go (s.obj_get hid) hg⟩
  rw [add_ad, add_mk, r.sep.cell hb, q3, List.getElem?_append_left (by
    rw [flat_len ocells_len, List.length_zip, r.rep.gl]; omega), flat_at ocells_len _ _ j _ hz hj]
theorem sl_at {M : Mem} {x : Nat} {sl : Sl} {α : Type} {l : List α} {f : α → Value} (i : IsSl 1 M x sl (l.map f)) (p : Sep h M) {k : Nat} {a : α} (hk : l[k]? = some a) : ∃ b, M.loc x = some b ∧ sl.a = some (ad b) ∧ cell h ((ad b).add (k * 1)) = some (f a) ∧ ((0 : Int) ≤ (k : Int) ∧ (k : Int) < ((sl.n : Nat) : Int)) := by
  obtain ⟨b, hb, ha, hc⟩ := i.at p (o := k) (v := f a) (by rw [List.getElem?_map, hk]; rfl)
  have hl := i.len
  rw [List.length_map] at hl
  have := (List.getElem?_eq_some_iff.1 hk).1
  exact ⟨b, hb, ha, by rw [add_ad, Nat.mul_one]; exact hc, by omega, by omega⟩
/-! ### Ref, size -/
theorem rref_ok (r : RT h rb M s g) (v : s.Inv) {id : Nat} (hid : id = 0 ∨ s.here id) {R : Value → Hp → Prop} (hR : R (uv (s.ref id)) h) : CallTo Try.prog 106 #[.pointer (some (ad rb)), nv id] h R := by
  have ht : top = 9223372036854775808 := rfl
  refine f106F_ok ?_
  unfold f106F
  by_cases h0 : id = 0
  · subst h0
    rw [RS.ref_zero] at hR
    exact Cond_t rfl hR
  have hh := hid.resolve_left h0
  have hpl := RS.pl_lt v hh
  obtain ⟨b, go, hb, hg, ha, cb, c0, cj, _, _⟩ := r.obj (v.here_lt hh)
  have c6 : cell h ((ad rb).add 6) = some (.slice g.os.a g.os.n g.os.c) := (r.c 6).trans rfl
  have c4 := cj 4 (by omega)
  have c5 := cj 5 (by omega)
  refine Cond_f (by simp; omega) (PtrOk_mk ⟨g.os, c6, cb, PtrOk_of ha ⟨_, by rw [Int.toNat_natCast]; exact c4.trans rfl, ?_⟩⟩)
  cases hbig : (s.obj id).big with
  | true =>
    rw [RS.ref_big h0 hbig] at hR
    refine Cond_t rfl (PtrOk_mk ⟨g.os, c6, cb, PtrOk_of ha ⟨_, by rw [Int.toNat_natCast]; exact c5.trans rfl, ?_⟩⟩)
    rw [wrap_u64' (x := (((s.obj id).pl : Nat) : Int)) (by omega) (by omega), wrap_u64' (by omega) (by omega)]
    have e : (9223372036854775808 : Int) + (((s.obj id).pl : Nat) : Int) = ((top + (s.obj id).pl : Nat) : Int) := by omega
    rw [e]
    exact hR
  | false =>
    rw [RS.ref_small h0 hbig] at hR
    refine Cond_f rfl (PtrOk_mk ⟨g.os, c6, cb, PtrOk_of ha ⟨_, by rw [Int.toNat_natCast]; exact c5.trans rfl, ?_⟩⟩)
    rw [wrap_u64' (x := (((s.obj id).pl : Nat) : Int)) (by omega) (by omega)]
    exact hR
theorem rsize_ok (r : RT h rb M s g) (v : s.Inv) {id : Nat} (hh : s.here id) {R : Value → Hp → Prop} (hR : R (nv (s.size id)) h) : CallTo Try.prog 109 #[.pointer (some (ad rb)), nv id] h R := by
  refine f109F_ok ?_
  unfold f109F
  obtain ⟨b, go, hb, hg, ha, cb, c0, cj, i1, i2⟩ := r.obj (v.here_lt hh)
  obtain ⟨_, _, q1, q2, _⟩ := v.shp id hh
  have c6 : cell h ((ad rb).add 6) = some (.slice g.os.a g.os.n g.os.c) := (r.c 6).trans rfl
  have l1 := i1.len
  have l2 := i2.len
  rw [List.length_map] at l1 l2
  refine PtrOk_mk ⟨g.os, c6, cb, PtrOk_of ha ⟨go.rs, by rw [Int.toNat_natCast]; exact (cj 1 (by omega)).trans rfl, PtrOk_mk ⟨g.os, c6, cb, PtrOk_of ha ⟨go.ws, by rw [Int.toNat_natCast]; exact (cj 2 (by omega)).trans rfl, ?_⟩⟩⟩⟩
  have e : IntKind.wrap .i64 ((IntKind.wrap .i64 ((1 : Int) + ((go.rs.n : Nat) : Int))) + ((go.ws.n : Nat) : Int)) = ((s.size id : Nat) : Int) := by
    have : s.size id = 1 + (s.obj id).refs.length + (s.obj id).raws.length := rfl
    rw [wrap_ar (x := (1 : Int) + ((go.rs.n : Nat) : Int)) (by omega) (by omega), wrap_ar (by omega) (by omega)]; omega
  rw [e]
  exact hR
/-! ### ID -/
theorem RS.pl_mono (v : s.Inv) {i j a b : Nat} (hi : s.small[i]? = some a) (hj : s.small[j]? = some b) (h : i < j) : (s.obj a).pl < (s.obj b).pl := by
  have e1 := RS.placeIn_at (s := s) s.small 1 i a v.nds hi
  have e2 := RS.placeIn_at (s := s) s.small 1 j b v.nds hj
  have p1 := (v.sm a (List.mem_of_getElem? hi)).2.2.2.2
  have p2 := (v.sm b (List.mem_of_getElem? hj)).2.2.2.2
  have e3 : s.sizes (s.small.take (i + 1)) = s.sizes (s.small.take i) + s.size a := by rw [RS.take_snoc hi, RS.sizes_snoc]
  have e4 : s.sizes (s.small.take (i + 1)) ≤ s.sizes (s.small.take j) := by
    have : s.small.take (i + 1) = (s.small.take j).take (i + 1) := by rw [List.take_take, Nat.min_eq_left (by omega)]
    rw [this]; exact s.sizes_take _ _
  have : 1 ≤ s.size a := by unfold RS.size RObj.size; omega
  omega
theorem RS.pl_used (v : s.Inv) {a : Nat} (ha : a ∈ s.small) : (s.obj a).pl < s.used := by
  obtain ⟨i, hi, hp⟩ := v.small_at ha
  have e3 : s.sizes (s.small.take (i + 1)) = s.sizes (s.small.take i) + s.size a := by rw [RS.take_snoc hi, RS.sizes_snoc]
  have e4 := s.sizes_take s.small (i + 1)
  have : 1 ≤ s.size a := by unfold RS.size RObj.size; omega
  have := v.u1
  omega
theorem RS.ident_low_mem (v : s.Inv) {r : Nat} (hl : r < top) (h : s.ident r ≠ 0) : s.ident r ∈ s.small ∧ (s.obj (s.ident r)).pl = r := by
  obtain ⟨q1, q2⟩ := RS.ident_here v h
  rcases v.big_of q1 with ⟨hb, _, hne⟩ | ⟨hb, hs⟩
  · have ht : top = 9223372036854775808 := rfl
    rw [RS.ref_big hne hb] at q2; omega
  · rw [RS.ref_small h hb] at q2; exact ⟨hs, q2⟩
theorem rid_ok (r : RT h rb M s g) (v : s.Inv) {x : Nat} (hx : x < 18446744073709551616) {R : Value → Hp → Prop} (hR : R (nv (s.ident x)) h) : CallTo Try.prog 111 #[.pointer (some (ad rb)), uv x] h R := by
  have ht : top = 9223372036854775808 := rfl
  have i5 := v.sll
  have i1 := v.u1; have i2 := v.u2; have i3 := v.h2; have i4 := v.l2
  refine f111F_ok ?_
  unfold f111F
  rcases Nat.lt_or_ge x top with hl | hg
  · rw [show decide (((x : Nat) : Int) ≥ (9223372036854775808 : Int)) = false from decide_eq_false (by omega)]
    refine Cond_f rfl ?_
    by_cases h0 : x = 0
    · subst h0
      rw [RS.ident_zero] at hR
      refine Cond_t rfl ?_
      unfold f111K1
      exact Cond_t rfl hR
    refine Cond_f (by simp; omega) ?_
    have c2 : cell h ((ad rb).add 2) = some (.int .i64 (s.used : Nat)) := (r.c 2).trans rfl
    refine PtrOk_mk ⟨_, c2, ?_⟩
    rw [wrap_u64' (x := ((s.used : Nat) : Int)) (by omega) (by omega)]
    by_cases hge : s.used ≤ x
    · rw [show decide (((x : Nat) : Int) ≥ ((s.used : Nat) : Int)) = true from decide_eq_true (by omega)]
      unfold f111K1
      have e : s.ident x = 0 := by
        by_cases hn : s.ident x = 0
        · exact hn
        · obtain ⟨q1, q2⟩ := RS.ident_low_mem v hl hn
          have := RS.pl_used v q1
          omega
      rw [e] at hR
      exact Cond_t rfl hR
    rw [show decide (((x : Nat) : Int) ≥ ((s.used : Nat) : Int)) = false from decide_eq_false (by omega)]
    unfold f111K1
    have c7 : cell h ((ad rb).add 7) = some (.slice g.ss.a g.ss.n g.ss.c) := (r.c 7).trans rfl
    have c6 : cell h ((ad rb).add 6) = some (.slice g.os.a g.os.n g.os.c) := (r.c 6).trans rfl
    have hsn := r.ss_n
    have hsml : s.small.length ≤ s.objs.length := by
      have := RS.len_le s.small (List.range s.objs.length) v.nds fun y hy => List.mem_range.2 (v.sm y hy).2.1
      rwa [List.length_range] at this
    have hsl : s.small.length ≤ s.sizes s.small := by
      unfold RS.sizes
      have : ∀ l : List Nat, l.length ≤ (l.map s.size).sum := by
        intro l
        induction l with
        | nil => exact Nat.le_refl _
        | cons y l ih => rw [List.map_cons, List.sum_cons, List.length_cons]; have : 1 ≤ s.size y := (by unfold RS.size RObj.size; omega); omega
      exact this _
    refine Cond_f rfl (PtrOk_mk ⟨g.ss, c7, ?_⟩)
    rw [hsn]
    refine f111L1_rule (fun q s0 s1 s6 s7 h' => ∃ lo hi : Nat, q = hi - lo ∧ s0 = some (ad rb) ∧ s1 = (x : Int) ∧ s6 = (lo : Int) ∧ s7 = (hi : Int) ∧ h' = h ∧ lo ≤ hi ∧ hi ≤ s.small.length ∧
      (∀ j a, j < lo → s.small[j]? = some a → (s.obj a).pl < x) ∧ (∀ j a, hi ≤ j → s.small[j]? = some a → x ≤ (s.obj a).pl)) s.small.length
      ⟨0, s.small.length, rfl, rfl, rfl, rfl, rfl, rfl, Nat.zero_le _, Nat.le_refl _, fun j a hj => absurd hj (Nat.not_lt_zero _), fun j a hj ha => by have := (List.getElem?_eq_some_iff.1 ha).1; omega⟩ ?_
    rintro q s0 s1 s6 s7 g' h' ⟨lo, hi, rfl, rfl, rfl, rfl, rfl, rfl, hle, hhi, hlo', hhi'⟩
    unfold f111L1
    refine Cond_dec (fun hlt => ⟨by omega, ?_⟩) fun hge' => ?_
    · have em : IntKind.wrap .i64 (Int.tdiv (IntKind.wrap .i64 (((lo : Nat) : Int) + ((hi : Nat) : Int))) (2 : Int)) = (((lo + hi) / 2 : Nat) : Int) := by
        rw [wrap_ar (x := ((lo : Nat) : Int) + ((hi : Nat) : Int)) (by omega) (by omega), tdiv_nn (by omega), wrap_ar (by omega) (by omega)]; omega
      rw [em]
      have hm : (lo + hi) / 2 < s.small.length := by omega
      obtain ⟨a, ha⟩ : ∃ a, s.small[(lo + hi) / 2]? = some a := ⟨_, List.getElem?_eq_getElem hm⟩
      obtain ⟨b2, _, ha2, hc2, cb2⟩ := sl_at r.rep.sm r.sep ha
      have hsa := List.mem_of_getElem? ha
      obtain ⟨b, go, hb, hg, hba, cb, c0, cj, _, _⟩ := r.obj (v.here_lt (.inl hsa))
      refine PtrOk_mk ⟨g.os, c6, PtrOk_mk ⟨g.ss, c7, cb2, PtrOk_of ha2 ⟨((a : Nat) : Int), by rw [Int.toNat_natCast]; exact hc2, cb, PtrOk_of hba ⟨(((s.obj a).pl : Nat) : Int), by rw [Int.toNat_natCast]; exact (cj 5 (by omega)).trans rfl, ?_⟩⟩⟩⟩
      rw [wrap_i64' (x := ((x : Nat) : Int)) (by omega) (by omega)]
      refine Cond_dec (fun hc => ?_) fun hc => ?_
      · have ew : IntKind.wrap .i64 ((((lo + hi) / 2 : Nat) : Int) + 1) = (((lo + hi) / 2 + 1 : Nat) : Int) := by rw [wrap_ar (by omega) (by omega)]; rfl
        refine ⟨hi - ((lo + hi) / 2 + 1), by omega, (lo + hi) / 2 + 1, hi, rfl, rfl, rfl, ew, rfl, rfl, by omega, hhi, fun j c hj hjc => ?_, hhi'⟩
        rcases Nat.lt_or_ge j ((lo + hi) / 2) with hj2 | hj2
        · have := RS.pl_mono v hjc ha hj2; omega
        · obtain rfl : j = (lo + hi) / 2 := by omega
          rw [ha] at hjc
          obtain rfl := Option.some.inj hjc
          omega
      · refine ⟨(lo + hi) / 2 - lo, by omega, lo, (lo + hi) / 2, rfl, rfl, rfl, rfl, rfl, rfl, by omega, by omega, hlo', fun j c hj hjc => ?_⟩
        rcases Nat.lt_or_ge ((lo + hi) / 2) j with hj2 | hj2
        · have := RS.pl_mono v ha hjc hj2; omega
        · obtain rfl : j = (lo + hi) / 2 := by omega
          rw [ha] at hjc
          obtain rfl := Option.some.inj hjc
          omega
    · obtain rfl : lo = hi := by omega
      have nf : (∀ a, s.small[lo]? = some a → (s.obj a).pl ≠ x) → s.ident x = 0 := fun hn => by
        by_cases hz : s.ident x = 0
        · exact hz
        · exfalso
          obtain ⟨q1, q2⟩ := RS.ident_low_mem v hl hz
          obtain ⟨j, hj⟩ := List.mem_iff_getElem?.1 q1
          rcases Nat.lt_trichotomy j lo with h1 | h1 | h1
          · have := hlo' j _ h1 hj; omega
          · subst h1; exact hn _ hj q2
          · have hll : lo < s.small.length := by have := (List.getElem?_eq_some_iff.1 hj).1; omega
            have hla : s.small[lo]? = some s.small[lo] := List.getElem?_eq_getElem hll
            have := RS.pl_mono v hla hj h1
            have := hhi' lo _ (Nat.le_refl _) hla
            omega
      refine PtrOk_mk ⟨g.ss, c7, ?_⟩
      rw [hsn]
      refine Cond_dec (fun hlt => ?_) fun hge2 => ?_
      · have hll : lo < s.small.length := by omega
        obtain ⟨a, ha⟩ : ∃ a, s.small[lo]? = some a := ⟨_, List.getElem?_eq_getElem hll⟩
        obtain ⟨b2, _, ha2, hc2, cb2⟩ := sl_at r.rep.sm r.sep ha
        have hsa := List.mem_of_getElem? ha
        obtain ⟨b, go, hb, hg, hba, cb, c0, cj, _, _⟩ := r.obj (v.here_lt (.inl hsa))
        refine PtrOk_mk ⟨g.os, c6, PtrOk_mk ⟨g.ss, c7, cb2, PtrOk_of ha2 ⟨((a : Nat) : Int), by rw [Int.toNat_natCast]; exact hc2, cb, PtrOk_of hba ⟨(((s.obj a).pl : Nat) : Int), by rw [Int.toNat_natCast]; exact (cj 5 (by omega)).trans rfl, ?_⟩⟩⟩⟩
        rw [wrap_i64' (x := ((x : Nat) : Int)) (by omega) (by omega)]
        by_cases he : (s.obj a).pl = x
        · have ei : s.ident x = a := by rw [← he]; exact RS.ident_small v hsa
          rw [ei] at hR
          exact Cond_t (by simp [he]) (PtrOk_mk ⟨g.ss, c7, cb2, PtrOk_of ha2 ⟨((a : Nat) : Int), by rw [Int.toNat_natCast]; exact hc2, hR⟩⟩)
        · rw [nf fun c hc => by rw [ha] at hc; obtain rfl := Option.some.inj hc; exact he] at hR
          exact Cond_f (by simp; omega) hR
      · rw [nf fun c hc => by have := (List.getElem?_eq_some_iff.1 hc).1; omega] at hR
        exact hR
  · obtain ⟨k, rfl⟩ := Nat.exists_eq_add_of_le hg
    rw [RS.ident_top] at hR
    have hk : k < 9223372036854775808 := by omega
    rw [show decide (((top + k : Nat) : Int) ≥ (9223372036854775808 : Int)) = true from decide_eq_true (by omega)]
    have hn : IntKind.wrap .u64 (((top + k : Nat) : Int) - (9223372036854775808 : Int)) = (k : Int) := by rw [wrap_u64' (by omega) (by omega)]; omega
    refine Cond_t rfl ?_
    rw [hn]
    have c8 : cell h ((ad rb).add 8) = some (.slice g.ls.a g.ls.n g.ls.c) := (r.c 8).trans rfl
    have hln := r.ls_n
    refine PtrOk_mk ⟨g.ls, c8, ?_⟩
    rw [wrap_u64' (x := ((g.ls.n : Nat) : Int)) (by omega) (by omega)]
    refine Cond_dec (fun hge => ?_) fun hlt => ?_
    · rw [List.getD_eq_getElem?_getD, List.getElem?_eq_none (by omega)] at hR
      exact hR
    · have hkl : k < s.slots.length := by omega
      obtain ⟨a, ha⟩ : ∃ a, s.slots[k]? = some a := ⟨_, List.getElem?_eq_getElem hkl⟩
      rw [List.getD_eq_getElem?_getD, ha] at hR
      obtain ⟨b2, _, ha2, hc2, cb2⟩ := sl_at r.rep.sl r.sep ha
      exact PtrOk_mk ⟨g.ls, c8, cb2, PtrOk_of ha2 ⟨((a : Nat) : Int), by rw [Int.toNat_natCast]; exact hc2, hR⟩⟩
end
end Go.Ev
set_option linter.all false
set_option maxRecDepth 100000
namespace Go.Ev
open Go.Proofs
section
variable {h h' : Hp} {rb : Nat} {M : Mem} {s s' : RS} {g : RGeo}
/-- One cell of the struct's own. -/
theorem RT.num (r : RT h rb M s g) {a : Addr} {i : Nat} {v : Value} (ha : a = ⟨rb, i, none⟩) (hi : i < 13) (hc : (rhd s g).set i v = rhd s' g) (e1 : s'.objs = s.objs) (e2 : s'.small = s.small) (e3 : s'.slots = s.slots) (e4 : s'.roots = s.roots)
    {K : Hp → Prop} (hK : ∀ h' M', RT h' rb M' s' g → Chg h M h' M' → K h') : stOk h a ∧ Let (setc h a v) fun h' => K h' := by
  refine r.sep.st r.loc ha (by rw [r.rep.hd]; exact hi) fun h' sp ch => hK h' _ ⟨sp, Mem.loc_self .., ⟨?_, by rw [e1]; exact r.rep.gl, ?_, ?_, ?_, ?_, fun j o go h1 h2 => ?_⟩⟩ ch
  · rw [Mem.cont_self, r.rep.hd, hc]
  · rw [e1]; exact r.rep.ob.other (by omega)
  · rw [e2]; exact r.rep.sm.other (by omega)
  · rw [e3]; exact r.rep.sl.other (by omega)
  · rw [e4]; exact r.rep.rt.other (by omega)
  · rw [e1] at h1
    obtain ⟨q1, q2⟩ := r.rep.rf j o go h1 h2
    exact ⟨q1.other (by omega), q2.other (by omega)⟩
/-- A handle is written. -/
theorem RT.setRoot (r : RT h rb M s g) {k : Nat} (hk : k < s.roots.length) (x : Option Nat) : ∃ b, g.ts.a = some (ad b) ∧ ∀ K : Hp → Prop, (∀ h' M', RT h' rb M' (s.withRoots (s.roots.set k x)) g → Chg h M h' M' → K h') →
    stOk h ((ad b).add (k * 1)) ∧ Let (setc h ((ad b).add (k * 1)) (rootZ x)) fun h' => K h' := by
  obtain ⟨b, hb, ha, _, _⟩ := sl_at r.rep.rt r.sep (List.getElem?_eq_getElem hk)
  refine ⟨b, ha, fun K hK => ?_⟩
  obtain ⟨q1, q2⟩ := r.rep.rt.set hb (rootZ x) (o := k) (by rw [List.length_map]; exact hk)
  refine r.sep.st hb (by rw [add_ad, Nat.mul_one]) q1 fun h' sp ch => hK h' _ ⟨sp, ?_, ⟨?_, r.rep.gl, r.rep.ob.other (by omega), r.rep.sm.other (by omega), r.rep.sl.other (by omega), ?_, fun j o go h1 h2 => ?_⟩⟩ ch
  · rw [Mem.loc_ne _ _ _ (by omega)]; exact r.loc
  · rw [Mem.cont_ne _ _ _ (by omega)]; exact r.rep.hd
  · show IsSl 1 _ 4 g.ts ((s.roots.set k x).map rootZ)
    rw [List.map_set]; exact q2
  · obtain ⟨p1, p2⟩ := r.rep.rf j o go h1 h2
    exact ⟨p1.other (by omega), p2.other (by omega)⟩
/-- A slot is written. -/
theorem RT.setSlot (r : RT h rb M s g) {k : Nat} (hk : k < s.slots.length) (x : Nat) : ∃ b, g.ls.a = some (ad b) ∧ ∀ K : Hp → Prop, (∀ h' M', RT h' rb M' { s with slots := s.slots.set k x } g → Chg h M h' M' → K h') →
    stOk h ((ad b).add (k * 1)) ∧ Let (setc h ((ad b).add (k * 1)) (nv x)) fun h' => K h' := by
  obtain ⟨b, hb, ha, _, _⟩ := sl_at r.rep.sl r.sep (List.getElem?_eq_getElem hk)
  refine ⟨b, ha, fun K hK => ?_⟩
  obtain ⟨q1, q2⟩ := r.rep.sl.set hb (nv x) (o := k) (by rw [List.length_map]; exact hk)
  refine r.sep.st hb (by rw [add_ad, Nat.mul_one]) q1 fun h' sp ch => hK h' _ ⟨sp, ?_, ⟨?_, r.rep.gl, r.rep.ob.other (by omega), r.rep.sm.other (by omega), ?_, r.rep.rt.other (by omega), fun j o go h1 h2 => ?_⟩⟩ ch
  · rw [Mem.loc_ne _ _ _ (by omega)]; exact r.loc
  · rw [Mem.cont_ne _ _ _ (by omega)]; exact r.rep.hd
  · show IsSl 1 _ 3 g.ls ((s.slots.set k x).map nv)
    rw [List.map_set]; exact q2
  · obtain ⟨p1, p2⟩ := r.rep.rf j o go h1 h2
    exact ⟨p1.other (by omega), p2.other (by omega)⟩
/-- An object is another one, in the same blocks (o: its cells; the fields' lists are written by others). -/
theorem RT.setCell (r : RT h rb M s g) {id j : Nat} (hid : id < s.objs.length) (hj : j < 6) {v : Value} {o' : RObj} {go go' : RObjG} (hg : g.gs[id]? = some go) (hc : (ocells (s.obj id, go)).set j v = ocells (o', go')) (hrf : o'.refs = (s.obj id).refs) (hrw : o'.raws = (s.obj id).raws)
    (hrs : go'.rs = go.rs) (hws : go'.ws = go.ws) {a : Addr} {ob : Nat} (hob : M.loc 1 = some ob) (ha : a = ⟨ob, id * 6 + j, none⟩) {K : Hp → Prop} (hK : ∀ h' M', RT h' rb M' (s.setObj id o') { g with gs := g.gs.set id go' } → Chg h M h' M' → K h') :
    stOk h a ∧ Let (setc h a v) fun h' => K h' := by
  have hz : (s.objs.zip g.gs)[id]? = some (s.obj id, go) := by rw [List.getElem?_zip_eq_some]; exact ⟨s.obj_get hid, hg⟩
  have hgl : id < g.gs.length := (List.getElem?_eq_some_iff.1 hg).1
  obtain ⟨q1, q2⟩ := r.rep.ob.set hob v (o := id * 6 + j) (by rw [flat_len ocells_len, List.length_zip, r.rep.gl]; omega)
  rw [flat_set ocells_len _ id j _ (o', go') v hz hj hc.symm] at q2
  have ez : (s.objs.zip g.gs).set id (o', go') = (s.objs.set id o').zip (g.gs.set id go') := by
    apply List.ext_getElem?
    intro i
    by_cases hi : i = id
    · subst hi
      rw [List.getElem?_set_self (by rw [List.length_zip]; omega)]
      symm
      rw [List.getElem?_zip_eq_some]
      exact ⟨List.getElem?_set_self hid, List.getElem?_set_self hgl⟩
    · rw [List.getElem?_set_ne (Ne.symm hi)]
      simp only [List.zip, List.getElem?_zipWith]
      rw [List.getElem?_set_ne (Ne.symm hi), List.getElem?_set_ne (Ne.symm hi)]
  rw [ez] at q2
  refine r.sep.st hob ha q1 fun h' sp ch => hK h' _ ⟨sp, ?_, ⟨?_, ?_, q2, r.rep.sm.other (by omega), r.rep.sl.other (by omega), r.rep.rt.other (by omega), fun i o go2 h1 h2 => ?_⟩⟩ ch
  · rw [Mem.loc_ne _ _ _ (by omega)]; exact r.loc
  · rw [Mem.cont_ne _ _ _ (by omega)]; exact r.rep.hd
  · show (g.gs.set id go').length = (s.objs.set id o').length
    rw [List.length_set, List.length_set]; exact r.rep.gl
  · have h1 : (s.objs.set id o')[i]? = some o := h1
    have h2 : (g.gs.set id go')[i]? = some go2 := h2
    by_cases hi : i = id
    · subst hi
      rw [List.getElem?_set_self hid] at h1
      rw [List.getElem?_set_self hgl] at h2
      obtain rfl := Option.some.inj h1
      obtain rfl := Option.some.inj h2
      obtain ⟨p1, p2⟩ := r.rep.rf i _ _ (s.obj_get hid) hg
      rw [hrs, hws, hrf, hrw]
      exact ⟨p1.other (by omega), p2.other (by omega)⟩
    · rw [List.getElem?_set_ne (Ne.symm hi)] at h1 h2
      obtain ⟨p1, p2⟩ := r.rep.rf i _ _ h1 h2
      exact ⟨p1.other (by omega), p2.other (by omega)⟩
/-- A ref field is written. -/
theorem RT.setRef (r : RT h rb M s g) {id k : Nat} (hid : id < s.objs.length) (hk : k < (s.obj id).refs.length) (x : Nat) : ∃ b go, g.gs[id]? = some go ∧ go.rs.a = some (ad b) ∧ ∀ K : Hp → Prop,
    (∀ h' M', RT h' rb M' (s.setObj id { s.obj id with refs := (s.obj id).refs.set k x }) g → Chg h M h' M' → K h') → stOk h ((ad b).add (k * 1)) ∧ Let (setc h ((ad b).add (k * 1)) (nv x)) fun h' => K h' := by
  obtain ⟨ob, go, _, hg, _, _, _, _, i1, i2⟩ := r.obj hid
  obtain ⟨b, hb, ha, _, _⟩ := sl_at i1 r.sep (List.getElem?_eq_getElem hk)
  refine ⟨b, go, hg, ha, fun K hK => ?_⟩
  obtain ⟨q1, q2⟩ := i1.set hb (nv x) (o := k) (by rw [List.length_map]; exact hk)
  have hz : (s.objs.zip g.gs)[id]? = some (s.obj id, go) := by rw [List.getElem?_zip_eq_some]; exact ⟨s.obj_get hid, hg⟩
  refine r.sep.st hb (by rw [add_ad, Nat.mul_one]) q1 fun h' sp ch => hK h' _ ⟨sp, ?_, ⟨?_, ?_, ?_, r.rep.sm.other (by omega), r.rep.sl.other (by omega), r.rep.rt.other (by omega), fun i o go2 h1 h2 => ?_⟩⟩ ch
  · rw [Mem.loc_ne _ _ _ (by omega)]; exact r.loc
  · rw [Mem.cont_ne _ _ _ (by omega)]; exact r.rep.hd
  · show g.gs.length = (s.objs.set id _).length
    rw [List.length_set]; exact r.rep.gl
  · show IsSl 6 _ 1 g.os (((s.objs.set id { s.obj id with refs := (s.obj id).refs.set k x }).zip g.gs).flatMap ocells)
    have e : ((s.objs.set id { s.obj id with refs := (s.obj id).refs.set k x }).zip g.gs).flatMap ocells = (s.objs.zip g.gs).flatMap ocells := by
      have ez : (s.objs.set id { s.obj id with refs := (s.obj id).refs.set k x }).zip g.gs = (s.objs.zip g.gs).set id ({ s.obj id with refs := (s.obj id).refs.set k x }, go) := by
        apply List.ext_getElem?
        intro i
        by_cases hi : i = id
        · subst hi
          rw [List.getElem?_set_self (by rw [List.length_zip, r.rep.gl]; omega), List.getElem?_zip_eq_some]
          exact ⟨List.getElem?_set_self hid, hg⟩
        · rw [List.getElem?_set_ne (Ne.symm hi)]
          simp only [List.zip, List.getElem?_zipWith]
          rw [List.getElem?_set_ne (Ne.symm hi)]
      rw [ez, ← flat_set ocells_len _ id 0 _ _ (nv (s.obj id).kind) hz (by omega) rfl]
      exact RS.set_same (by rw [flat_at ocells_len _ id 0 _ hz (by omega)]; rfl)
    rw [e]
    exact r.rep.ob.other (by omega)
  · have h1 : (s.objs.set id { s.obj id with refs := (s.obj id).refs.set k x })[i]? = some o := h1
    by_cases hi : i = id
    · subst hi
      rw [List.getElem?_set_self hid] at h1
      rw [hg] at h2
      obtain rfl := Option.some.inj h1
      obtain rfl := Option.some.inj h2
      refine ⟨?_, i2.other (by omega)⟩
      show IsSl 1 _ _ go.rs (((s.obj i).refs.set k x).map nv)
      rw [List.map_set]; exact q2
    · rw [List.getElem?_set_ne (Ne.symm hi)] at h1
      obtain ⟨p1, p2⟩ := r.rep.rf i _ _ h1 h2
      exact ⟨p1.other (by omega), p2.other (by omega)⟩
/-- A raw field is written. -/
theorem RT.setRaw (r : RT h rb M s g) {id k : Nat} (hid : id < s.objs.length) (hk : k < (s.obj id).raws.length) (x : Nat) : ∃ b go, g.gs[id]? = some go ∧ go.ws.a = some (ad b) ∧ ∀ K : Hp → Prop,
    (∀ h' M', RT h' rb M' (s.setObj id { s.obj id with raws := (s.obj id).raws.set k x }) g → Chg h M h' M' → K h') → stOk h ((ad b).add (k * 1)) ∧ Let (setc h ((ad b).add (k * 1)) (uv x)) fun h' => K h' := by
  obtain ⟨ob, go, _, hg, _, _, _, _, i1, i2⟩ := r.obj hid
  obtain ⟨b, hb, ha, _, _⟩ := sl_at i2 r.sep (List.getElem?_eq_getElem hk)
  refine ⟨b, go, hg, ha, fun K hK => ?_⟩
  obtain ⟨q1, q2⟩ := i2.set hb (uv x) (o := k) (by rw [List.length_map]; exact hk)
  have hz : (s.objs.zip g.gs)[id]? = some (s.obj id, go) := by rw [List.getElem?_zip_eq_some]; exact ⟨s.obj_get hid, hg⟩
  refine r.sep.st hb (by rw [add_ad, Nat.mul_one]) q1 fun h' sp ch => hK h' _ ⟨sp, ?_, ⟨?_, ?_, ?_, r.rep.sm.other (by omega), r.rep.sl.other (by omega), r.rep.rt.other (by omega), fun i o go2 h1 h2 => ?_⟩⟩ ch
  · rw [Mem.loc_ne _ _ _ (by omega)]; exact r.loc
  · rw [Mem.cont_ne _ _ _ (by omega)]; exact r.rep.hd
  · show g.gs.length = (s.objs.set id _).length
    rw [List.length_set]; exact r.rep.gl
  · show IsSl 6 _ 1 g.os (((s.objs.set id { s.obj id with raws := (s.obj id).raws.set k x }).zip g.gs).flatMap ocells)
    have e : ((s.objs.set id { s.obj id with raws := (s.obj id).raws.set k x }).zip g.gs).flatMap ocells = (s.objs.zip g.gs).flatMap ocells := by
      have ez : (s.objs.set id { s.obj id with raws := (s.obj id).raws.set k x }).zip g.gs = (s.objs.zip g.gs).set id ({ s.obj id with raws := (s.obj id).raws.set k x }, go) := by
        apply List.ext_getElem?
        intro i
        by_cases hi : i = id
        · subst hi
          rw [List.getElem?_set_self (by rw [List.length_zip, r.rep.gl]; omega), List.getElem?_zip_eq_some]
          exact ⟨List.getElem?_set_self hid, hg⟩
        · rw [List.getElem?_set_ne (Ne.symm hi)]
          simp only [List.zip, List.getElem?_zipWith]
          rw [List.getElem?_set_ne (Ne.symm hi)]
      rw [ez, ← flat_set ocells_len _ id 0 _ _ (nv (s.obj id).kind) hz (by omega) rfl]
      exact RS.set_same (by rw [flat_at ocells_len _ id 0 _ hz (by omega)]; rfl)
    rw [e]
    exact r.rep.ob.other (by omega)
  · have h1 : (s.objs.set id { s.obj id with raws := (s.obj id).raws.set k x })[i]? = some o := h1
    by_cases hi : i = id
    · subst hi
      rw [List.getElem?_set_self hid] at h1
      rw [hg] at h2
      obtain rfl := Option.some.inj h1
      obtain rfl := Option.some.inj h2
      refine ⟨i1.other (by omega), ?_⟩
      show IsSl 1 _ _ go.ws (((s.obj i).raws.set k x).map uv)
      rw [List.map_set]; exact q2
    · rw [List.getElem?_set_ne (Ne.symm hi)] at h1
      obtain ⟨p1, p2⟩ := r.rep.rf i _ _ h1 h2
      exact ⟨p1.other (by omega), p2.other (by omega)⟩
/-- A handle more. -/
theorem RT.addRoot (r : RT h rb M s g) {e : Nat} {t : TypeId} (x : Nat) (hn : s.roots.length ≤ 100000000) {K : Hp → Prop} (hK : ∀ h' M' g', RT h' rb M' (s.withRoots (s.roots ++ [some x])) g' → Chg h M h' M' → K h') :
    Let (h.push (.cells #[nv x] t)) fun h2 => appSl e 1 8 #[.int .i64 0] g.ts.a g.ts.n g.ts.c (some (nb h)) 1 h2 fun ra rn rc h3 => PtrOk (some (ad rb)) fun p => stOk h3 (p.add 9) ∧ Let (setc h3 (p.add 9) (.slice ra rn rc)) fun h4 => K h4 := by
  have hn2 := r.ts_n
  refine r.rep.rt.app1 r.sep rfl rfl (fun v hv => by obtain rfl := List.mem_singleton.1 hv; rfl) (by omega) (by omega) fun a' c' h3 ob c sp sl ch => PtrOk_mk ?_
  have l0 : (M.upd 4 ob c).loc 0 = some rb := by rw [Mem.loc_ne _ _ _ (by omega)]; exact r.loc
  have c0 : (M.upd 4 ob c).cont 0 = rhd s g := by rw [Mem.cont_ne _ _ _ (by omega)]; exact r.rep.hd
  refine sp.st l0 (add_ad _ _) (by rw [c0]; show 9 < 13; omega) fun h4 sp4 ch4 => hK h4 _ { g with ts := ⟨a', g.ts.n + 1, c'⟩ } ⟨sp4, Mem.loc_self .., ⟨?_, r.rep.gl, ?_, ?_, ?_, ?_, fun j o go h1 h2 => ?_⟩⟩ (ch.trans ch4)
  · rw [Mem.cont_self, c0]; rfl
  · exact (r.rep.ob.other (by omega)).other (by omega)
  · exact (r.rep.sm.other (by omega)).other (by omega)
  · exact (r.rep.sl.other (by omega)).other (by omega)
  · show IsSl 1 _ 4 _ ((s.roots ++ [some x]).map rootZ)
    rw [List.map_append]
    exact sl.other (by omega)
  · obtain ⟨p1, p2⟩ := r.rep.rf j o go h1 h2
    exact ⟨(p1.other (by omega)).other (by omega), (p2.other (by omega)).other (by omega)⟩
/-- A slot more. -/
theorem RT.addSlot (r : RT h rb M s g) {e : Nat} {t : TypeId} (x : Nat) (hn : s.slots.length ≤ 100000000) {K : Hp → Prop} (hK : ∀ h' M' g', RT h' rb M' { s with slots := s.slots ++ [x] } g' → Chg h M h' M' → K h') :
    Let (h.push (.cells #[nv x] t)) fun h2 => appSl e 1 8 #[.int .i64 0] g.ls.a g.ls.n g.ls.c (some (nb h)) 1 h2 fun ra rn rc h3 => PtrOk (some (ad rb)) fun p => stOk h3 (p.add 8) ∧ Let (setc h3 (p.add 8) (.slice ra rn rc)) fun h4 => K h4 := by
  have hn2 := r.ls_n
  refine r.rep.sl.app1 r.sep rfl rfl (fun v hv => by obtain rfl := List.mem_singleton.1 hv; rfl) (by omega) (by omega) fun a' c' h3 ob c sp sl ch => PtrOk_mk ?_
  have l0 : (M.upd 3 ob c).loc 0 = some rb := by rw [Mem.loc_ne _ _ _ (by omega)]; exact r.loc
  have c0 : (M.upd 3 ob c).cont 0 = rhd s g := by rw [Mem.cont_ne _ _ _ (by omega)]; exact r.rep.hd
  refine sp.st l0 (add_ad _ _) (by rw [c0]; show 8 < 13; omega) fun h4 sp4 ch4 => hK h4 _ { g with ls := ⟨a', g.ls.n + 1, c'⟩ } ⟨sp4, Mem.loc_self .., ⟨?_, r.rep.gl, ?_, ?_, ?_, ?_, fun j o go h1 h2 => ?_⟩⟩ (ch.trans ch4)
  · rw [Mem.cont_self, c0]; rfl
  · exact (r.rep.ob.other (by omega)).other (by omega)
  · exact (r.rep.sm.other (by omega)).other (by omega)
  · show IsSl 1 _ 3 _ ((s.slots ++ [x]).map nv)
    rw [List.map_append]
    exact sl.other (by omega)
  · exact (r.rep.rt.other (by omega)).other (by omega)
  · obtain ⟨p1, p2⟩ := r.rep.rf j o go h1 h2
    exact ⟨(p1.other (by omega)).other (by omega), (p2.other (by omega)).other (by omega)⟩
/-- A small object's number more. -/
theorem RT.addSm (r : RT h rb M s g) {e : Nat} {t : TypeId} (x : Nat) (hn : s.small.length ≤ 100000000) {K : Hp → Prop} (hK : ∀ h' M' g', RT h' rb M' { s with small := s.small ++ [x] } g' → Chg h M h' M' → K h') :
    Let (h.push (.cells #[nv x] t)) fun h2 => appSl e 1 8 #[.int .i64 0] g.ss.a g.ss.n g.ss.c (some (nb h)) 1 h2 fun ra rn rc h3 => PtrOk (some (ad rb)) fun p => stOk h3 (p.add 7) ∧ Let (setc h3 (p.add 7) (.slice ra rn rc)) fun h4 => K h4 := by
  have hn2 := r.ss_n
  refine r.rep.sm.app1 r.sep rfl rfl (fun v hv => by obtain rfl := List.mem_singleton.1 hv; rfl) (by omega) (by omega) fun a' c' h3 ob c sp sl ch => PtrOk_mk ?_
  have l0 : (M.upd 2 ob c).loc 0 = some rb := by rw [Mem.loc_ne _ _ _ (by omega)]; exact r.loc
  have c0 : (M.upd 2 ob c).cont 0 = rhd s g := by rw [Mem.cont_ne _ _ _ (by omega)]; exact r.rep.hd
  refine sp.st l0 (add_ad _ _) (by rw [c0]; show 7 < 13; omega) fun h4 sp4 ch4 => hK h4 _ { g with ss := ⟨a', g.ss.n + 1, c'⟩ } ⟨sp4, Mem.loc_self .., ⟨?_, r.rep.gl, ?_, ?_, ?_, ?_, fun j o go h1 h2 => ?_⟩⟩ (ch.trans ch4)
  · rw [Mem.cont_self, c0]; rfl
  · exact (r.rep.ob.other (by omega)).other (by omega)
  · show IsSl 1 _ 2 _ ((s.small ++ [x]).map nv)
    rw [List.map_append]
    exact sl.other (by omega)
  · exact (r.rep.sl.other (by omega)).other (by omega)
  · exact (r.rep.rt.other (by omega)).other (by omega)
  · obtain ⟨p1, p2⟩ := r.rep.rf j o go h1 h2
    exact ⟨(p1.other (by omega)).other (by omega), (p2.other (by omega)).other (by omega)⟩
end
end Go.Ev
set_option linter.all false
set_option maxRecDepth 100000
namespace Go.Ev
open Go.Proofs
theorem reads_kept {h h' : Hp} {S : Nat → Prop} (k : Kept S h h') {a : Option Addr} {vs : List Value} (r : ReadsO h a vs) (hS : ∀ p, a = some p → p.block < h.size ∧ ¬ S p.block) : ReadsO h' a vs := by
  cases a with
  | none => exact r
  | some p =>
    obtain ⟨h1, h2⟩ := hS p rfl
    have e := k.2 _ h1 h2
    intro j v hv
    have := r j v hv
    unfold cell at this ⊢
    have eb : (p.add j).block = p.block := by unfold Addr.add; split <;> rfl
    rw [eb] at this ⊢
    rw [e]
    exact this
theorem reads_kept2 {h h' : Hp} {S : Nat → Prop} (k : Kept S h h') {a : Option Addr} {vs : List Value} (r : ReadsO h a vs) (hS : ∀ p, a = some p → vs ≠ [] → p.block < h.size ∧ ¬ S p.block) : ReadsO h' a vs := by
  by_cases hv : vs = []
  · subst hv
    cases a with
    | none => rfl
    | some p => intro j v hv; simp at hv
  · exact reads_kept k r fun p hp => hS p hp hv
theorem reads_keptN {h h' : Hp} (k : Kept (fun _ => False) h h') {a : Option Addr} {vs : List Value} (r : ReadsO h a vs) : ReadsO h' a vs := by
  refine reads_kept2 k r fun p hp hv => ⟨?_, id⟩
  subst hp
  cases vs with
  | nil => exact absurd rfl hv
  | cons v vs =>
    have h0 : cell h (p.add 0) = some v := r 0 v rfl
    unfold cell at h0
    have eb : (p.add 0).block = p.block := by unfold Addr.add; rfl
    rw [eb] at h0
    by_cases hl : p.block < h.size
    · exact hl
    · rw [Array.getElem?_eq_none (by omega)] at h0
      cases h0
theorem putW_sub {w s c : Nat} (hw : w < 18446744073709551616) (hs : s ≤ 56) (hc : c < 256) :
    IntKind.wrap .u64 ((IntKind.wrap .u64 (((w : Nat) : Int) - (IntKind.wrap .u64 ((IntKind.wrap .u64 (((w / 2 ^ s % 256 : Nat) : Int))) * 2 ^ s)))) + (IntKind.wrap .u64 ((IntKind.wrap .u64 ((c : Nat) : Int)) * 2 ^ s))) = ((putW w s c : Nat) : Int) := by
  have h1 : 2 ^ s * (w / 2 ^ s) + w % 2 ^ s = w := Nat.div_add_mod w (2 ^ s)
  have h2 : 256 * (w / 2 ^ s / 256) + w / 2 ^ s % 256 = w / 2 ^ s := Nat.div_add_mod _ _
  have h3 : w / 2 ^ (s + 8) = w / 2 ^ s / 256 := by rw [Nat.pow_add, ← Nat.div_div_eq_div_mul]
  have hp : 2 ^ s ≤ 2 ^ 56 := Nat.pow_le_pow_right (by omega) hs
  have hb : w / 2 ^ s % 256 < 256 := Nat.mod_lt _ (by omega)
  have e1 : 2 ^ s * (w / 2 ^ s) = 2 ^ s * (256 * (w / 2 ^ s / 256)) + 2 ^ s * (w / 2 ^ s % 256) := by rw [← Nat.mul_add, h2]
  have e2 : putW w s c = 2 ^ s * (256 * (w / 2 ^ s / 256)) + 2 ^ s * c + w % 2 ^ s := by
    unfold putW
    rw [h3, Nat.mul_add]
  have hlt : putW w s c < 18446744073709551616 := putW_lt hw hs hc
  have m1 : 2 ^ s * (w / 2 ^ s % 256) < 18446744073709551616 := by
    have := Nat.mul_le_mul hp (show w / 2 ^ s % 256 ≤ 255 by omega)
    omega
  have m2 : 2 ^ s * c < 18446744073709551616 := by
    have := Nat.mul_le_mul hp (show c ≤ 255 by omega)
    omega
  have c1 : (((w / 2 ^ s % 256 : Nat) : Int)) * 2 ^ s = ((2 ^ s * (w / 2 ^ s % 256) : Nat) : Int) := by rw [Nat.mul_comm]; norm_cast
  have c2 : ((c : Nat) : Int) * 2 ^ s = ((2 ^ s * c : Nat) : Int) := by rw [Nat.mul_comm]; norm_cast
  rw [wrap_u64' (x := ((w / 2 ^ s % 256 : Nat) : Int)) (by omega) (by omega), wrap_u64' (x := ((c : Nat) : Int)) (by omega) (by omega), c1, c2, wrap_u64' (x := ((2 ^ s * (w / 2 ^ s % 256) : Nat) : Int)) (by omega) (by omega), wrap_u64' (x := ((2 ^ s * c : Nat) : Int)) (by omega) (by omega)]
  generalize 2 ^ s * (256 * (w / 2 ^ s / 256)) = A at *
  generalize 2 ^ s * (w / 2 ^ s % 256) = B at *
  generalize 2 ^ s * c = C at *
  generalize 2 ^ s * (w / 2 ^ s) = D at *
  rw [wrap_u64' (x := ((w : Nat) : Int) - ((B : Nat) : Int)) (by omega) (by omega), wrap_u64' (by omega) (by omega)]
  omega
section
variable {h h' : Hp} {rb : Nat} {M : Mem} {s s' : RS} {g : RGeo}
theorem robject_ok (r : RT h rb M s g) (v : s.Inv) {x : Nat} (hx : x < 18446744073709551616) {R : Value → Hp → Prop}
    (hR : R (.tuple #[.int .i64 ((s.objF x).1.1 : Nat), .int .i64 ((s.objF x).1.2.1 : Nat), .int .i64 ((s.objF x).1.2.2 : Nat), .int .i64 (s.objF x).2]) h) : CallTo Try.prog 93 #[.pointer (some (ad rb)), uv x] h R := by
  refine f93F_ok ?_
  unfold f93F
  refine rid_ok r v hx ⟨_, rfl, ?_⟩
  unfold RS.objF at hR
  by_cases h0 : s.ident x = 0
  · rw [if_pos h0] at hR
    exact Cond_t (by simp [h0]) hR
  rw [if_neg h0] at hR
  have hh := (RS.ident_here v h0).1
  obtain ⟨b, go, hb, hg, ha, cb, c0, cj, i1, i2⟩ := r.obj (v.here_lt hh)
  have c6 : cell h ((ad rb).add 6) = some (.slice g.os.a g.os.n g.os.c) := (r.c 6).trans rfl
  have l1 := i1.len
  have l2 := i2.len
  rw [List.length_map] at l1 l2
  refine Cond_f (by simp; omega) (PtrOk_mk ⟨g.os, c6, cb, PtrOk_of ha ⟨_, by rw [Int.toNat_natCast]; exact c0, PtrOk_mk ⟨g.os, c6, cb, PtrOk_of ha ⟨go.rs, by rw [Int.toNat_natCast]; exact (cj 1 (by omega)).trans rfl, PtrOk_mk ⟨g.os, c6, cb, PtrOk_of ha ⟨go.ws, by rw [Int.toNat_natCast]; exact (cj 2 (by omega)).trans rfl, ?_⟩⟩⟩⟩⟩⟩)
  have e1 : go.rs.n = (s.obj (s.ident x)).refs.length := by omega
  have e2 : go.ws.n = (s.obj (s.ident x)).raws.length := by omega
  rw [e1, e2]
  exact hR
theorem rget_ok (r : RT h rb M s g) (v : s.Inv) {x : Nat} (hx : x < 18446744073709551616) {i : Int} {R : Value → Hp → Prop} (hR : R (.tuple #[uv (s.getF x i).1, .int .i64 (s.getF x i).2]) h) : CallTo Try.prog 94 #[.pointer (some (ad rb)), uv x, .int .i64 i] h R := by
  refine f94F_ok ?_
  unfold f94F
  refine rid_ok r v hx ⟨_, rfl, ?_⟩
  unfold RS.getF at hR
  by_cases h0 : s.ident x = 0
  · rw [if_pos h0] at hR
    exact Cond_t (by simp [h0]) hR
  rw [if_neg h0] at hR
  have hh := (RS.ident_here v h0).1
  obtain ⟨b, go, hb, hg, ha, cb, c0, cj, i1, i2⟩ := r.obj (v.here_lt hh)
  obtain ⟨_, _, q1, q2, _⟩ := v.shp _ hh
  have c6 : cell h ((ad rb).add 6) = some (.slice g.os.a g.os.n g.os.c) := (r.c 6).trans rfl
  have l1 := i1.len
  have l2 := i2.len
  rw [List.length_map] at l1 l2
  have efl := s.enc_flds_len (s.ident x)
  have eg : (s.enc (s.ident x)).flds = (s.obj (s.ident x)).refs.map s.ref ++ (s.obj (s.ident x)).raws := rfl
  refine Cond_f (by simp; omega) (PtrOk_mk ⟨g.os, c6, cb, PtrOk_of ha ⟨go.rs, by rw [Int.toNat_natCast]; exact (cj 1 (by omega)).trans rfl, Cond_dec (fun hn => ?_) fun hn => PtrOk_mk ⟨g.os, c6, cb, PtrOk_of ha ⟨go.ws, by rw [Int.toNat_natCast]; exact (cj 2 (by omega)).trans rfl, ?_⟩⟩⟩⟩)
  · unfold f94K1
    rw [if_neg (by omega)] at hR
    exact Cond_t rfl hR
  rw [wrap_ar (x := ((go.rs.n : Nat) : Int) + ((go.ws.n : Nat) : Int)) (by omega) (by omega)]
  by_cases hge : i ≥ ((go.rs.n : Nat) : Int) + ((go.ws.n : Nat) : Int)
  · rw [decide_eq_true hge]
    unfold f94K1
    rw [if_neg (by omega)] at hR
    exact Cond_t rfl hR
  rw [decide_eq_false hge]
  unfold f94K1
  rw [if_pos (by omega)] at hR
  obtain ⟨k, rfl⟩ := Int.eq_ofNat_of_zero_le (show 0 ≤ i by omega)
  rw [Int.toNat_natCast] at hR
  refine Cond_f rfl (Cond_dec (fun hlt => ?_) fun hge2 => ?_)
  · have hk : k < (s.obj (s.ident x)).refs.length := by omega
    obtain ⟨y, hy⟩ : ∃ y, (s.obj (s.ident x)).refs[k]? = some y := ⟨_, List.getElem?_eq_getElem hk⟩
    obtain ⟨b2, _, ha2, hc2, cb2⟩ := sl_at i1 r.sep hy
    refine PtrOk_mk ⟨g.os, c6, cb, PtrOk_of ha ⟨go.rs, by rw [Int.toNat_natCast]; exact (cj 1 (by omega)).trans rfl, cb2, PtrOk_of ha2 ⟨((y : Nat) : Int), by rw [Int.toNat_natCast]; exact hc2, rref_ok r v (v.rf _ hh y (List.mem_of_getElem? hy)) ⟨_, rfl, ?_⟩⟩⟩⟩
    have e : (s.enc (s.ident x)).flds.getD k 0 = s.ref y := by rw [eg, List.getD_eq_getElem?_getD, List.getElem?_append_left (by rw [List.length_map]; exact hk), List.getElem?_map, hy]; rfl
    rw [e] at hR
    exact hR
  · have hk : ¬ k < (s.obj (s.ident x)).refs.length := by omega
    have hk2 : k - (s.obj (s.ident x)).refs.length < (s.obj (s.ident x)).raws.length := by omega
    obtain ⟨y, hy⟩ : ∃ y, (s.obj (s.ident x)).raws[k - (s.obj (s.ident x)).refs.length]? = some y := ⟨_, List.getElem?_eq_getElem hk2⟩
    obtain ⟨b2, _, ha2, hc2, cb2⟩ := sl_at i2 r.sep hy
    have ew : IntKind.wrap .i64 (((k : Nat) : Int) - ((go.rs.n : Nat) : Int)) = ((k - (s.obj (s.ident x)).refs.length : Nat) : Int) := by rw [wrap_ar (by omega) (by omega)]; omega
    refine PtrOk_mk ⟨g.os, c6, cb, PtrOk_of ha ⟨go.ws, by rw [Int.toNat_natCast]; exact (cj 2 (by omega)).trans rfl, ?_⟩⟩
    rw [ew]
    refine ⟨cb2, PtrOk_of ha2 ⟨((y : Nat) : Int), by rw [Int.toNat_natCast]; exact hc2, ?_⟩⟩
    have e : (s.enc (s.ident x)).flds.getD k 0 = y := by
      rw [eg, List.getD_eq_getElem?_getD, List.getElem?_append_right (by rw [List.length_map]; omega), List.length_map, hy]; rfl
    rw [e] at hR
    exact hR
theorem rset_ok (r : RT h rb M s g) (v : s.Inv) {x : Nat} (hx : x < 18446744073709551616) {i : Int} {y : Nat} (hy : y < 18446744073709551616) {R : Value → Hp → Prop}
    (hR : ∀ h' M', RT h' rb M' (s.setF x i y).1 g → Chg h M h' M' → R (.int .i64 (s.setF x i y).2) h') : CallTo Try.prog 95 #[.pointer (some (ad rb)), uv x, .int .i64 i, uv y] h R := by
  refine f95F_ok ?_
  unfold f95F
  refine rid_ok r v hx ⟨_, rfl, ?_⟩
  by_cases h0 : s.ident x = 0
  · have e : s.setF x i y = (s, 32) := by unfold RS.setF; rw [if_pos h0]
    rw [e] at hR
    exact Cond_t (by simp [h0]) (hR h M r (Chg.refl _ _))
  have hh := (RS.ident_here v h0).1
  have hlt' := v.here_lt hh
  obtain ⟨b, go, hb, hg, ha, cb, c0, cj, i1, i2⟩ := r.obj hlt'
  obtain ⟨_, _, q1, q2, _⟩ := v.shp _ hh
  have c6 : cell h ((ad rb).add 6) = some (.slice g.os.a g.os.n g.os.c) := (r.c 6).trans rfl
  have l1 := i1.len
  have l2 := i2.len
  rw [List.length_map] at l1 l2
  have bad : ¬ (0 ≤ i ∧ i < (((s.obj (s.ident x)).refs.length + (s.obj (s.ident x)).raws.length : Nat) : Int)) → R (.int .i64 33) h := fun hb' => by
    have e : s.setF x i y = (s, 33) := by unfold RS.setF; rw [if_neg h0, if_pos hb']
    rw [e] at hR
    exact hR h M r (Chg.refl _ _)
  refine Cond_f (by simp; omega) (PtrOk_mk ⟨g.os, c6, cb, PtrOk_of ha ⟨go.rs, by rw [Int.toNat_natCast]; exact (cj 1 (by omega)).trans rfl, Cond_dec (fun hn => ?_) fun hn => PtrOk_mk ⟨g.os, c6, cb, PtrOk_of ha ⟨go.ws, by rw [Int.toNat_natCast]; exact (cj 2 (by omega)).trans rfl, ?_⟩⟩⟩⟩)
  · unfold f95K1
    exact Cond_t rfl (bad (by omega))
  rw [wrap_ar (x := ((go.rs.n : Nat) : Int) + ((go.ws.n : Nat) : Int)) (by omega) (by omega)]
  by_cases hge : i ≥ ((go.rs.n : Nat) : Int) + ((go.ws.n : Nat) : Int)
  · rw [decide_eq_true hge]
    unfold f95K1
    exact Cond_t rfl (bad (by omega))
  rw [decide_eq_false hge]
  unfold f95K1
  obtain ⟨k, rfl⟩ := Int.eq_ofNat_of_zero_le (show 0 ≤ i by omega)
  have e0 : s.setF x (k : Int) y = if (k : Int) < ((s.obj (s.ident x)).refs.length : Nat) then
      (if y ≠ 0 ∧ s.ident y = 0 then (s, 32) else (s.setObj (s.ident x) { s.obj (s.ident x) with refs := (s.obj (s.ident x)).refs.set k (s.ident y) }, 0))
      else (s.setObj (s.ident x) { s.obj (s.ident x) with raws := (s.obj (s.ident x)).raws.set (k - (s.obj (s.ident x)).refs.length) y }, 0) := by
    unfold RS.setF
    rw [if_neg h0, if_neg (by omega)]
    rfl
  rw [e0] at hR
  refine Cond_f rfl (Cond_dec (fun hge2 => ?_) fun hlt => ?_)
  · have hk : ¬ k < (s.obj (s.ident x)).refs.length := by omega
    have hk2 : k - (s.obj (s.ident x)).refs.length < (s.obj (s.ident x)).raws.length := by omega
    rw [if_neg (by omega)] at hR
    have ew : IntKind.wrap .i64 (((k : Nat) : Int) - ((go.rs.n : Nat) : Int)) = ((k - (s.obj (s.ident x)).refs.length : Nat) : Int) := by rw [wrap_ar (by omega) (by omega)]; omega
    obtain ⟨b2, go2, hg2, ha2, st⟩ := r.setRaw hlt' hk2 y
    rw [hg] at hg2
    obtain rfl := Option.some.inj hg2
    refine PtrOk_mk ⟨g.os, c6, cb, PtrOk_of ha ⟨go.ws, by rw [Int.toNat_natCast]; exact (cj 2 (by omega)).trans rfl, ?_⟩⟩
    rw [ew, Int.toNat_natCast]
    exact ⟨⟨by omega, by omega⟩, PtrOk_of ha2 (st _ fun h' M' r' ch => hR h' M' r' ch)⟩
  · have hk : k < (s.obj (s.ident x)).refs.length := by omega
    rw [if_pos (by omega)] at hR
    refine rid_ok r v hy ⟨_, rfl, ?_⟩
    have fin : ¬ (y ≠ 0 ∧ s.ident y = 0) → PtrOk (some (ad rb)) fun p69 => ∃ t71 : Sl, cell h (p69.add 6) = some (.slice t71.a t71.n t71.c) ∧ (0 ≤ ((s.ident x : Nat) : Int) ∧ ((s.ident x : Nat) : Int) < ((t71.n : Nat) : Int)) ∧ PtrOk t71.a fun p73 => ∃ t75 : Sl, cell h ((p73.add (((s.ident x : Nat) : Int).toNat * 6)).add 1) = some (.slice t75.a t75.n t75.c) ∧ (0 ≤ ((k : Nat) : Int) ∧ ((k : Nat) : Int) < ((t75.n : Nat) : Int)) ∧ PtrOk t75.a fun p78 => stOk h (p78.add (((k : Nat) : Int).toNat * 1)) ∧ Let (setc h (p78.add (((k : Nat) : Int).toNat * 1)) (.int .i64 ((s.ident y : Nat) : Int))) fun h4 => R (.int .i64 0 : Value) h4 := fun hok => by
      rw [if_neg hok] at hR
      obtain ⟨b2, go2, hg2, ha2, st⟩ := r.setRef hlt' hk (s.ident y)
      rw [hg] at hg2
      obtain rfl := Option.some.inj hg2
      refine PtrOk_mk ⟨g.os, c6, cb, PtrOk_of ha ⟨go.rs, by rw [Int.toNat_natCast]; exact (cj 1 (by omega)).trans rfl, ⟨by omega, by omega⟩, PtrOk_of ha2 ?_⟩⟩
      rw [Int.toNat_natCast]
      exact st _ fun h' M' r' ch => hR h' M' r' ch
    by_cases hy0 : y = 0
    · exact Cond_f (by simp [hy0]) (fin fun c => c.1 hy0)
    · refine Cond_t (by simp; omega) ?_
      by_cases hz : s.ident y = 0
      · rw [if_pos ⟨hy0, hz⟩] at hR
        exact Cond_t (by simp [hz]) (hR h M r (Chg.refl _ _))
      · exact Cond_f (by simp; omega) (fin fun c => hz c.2)
/-! ### Bytes -/
theorem rspan_ok {f n : Int} {k : Nat} (hk : k ≤ 100000000) (hn : n < 9223372036854775808) {R : Value → Hp → Prop} (hR : R (.bool (decide (0 ≤ f ∧ 0 ≤ n ∧ f + n ≤ 8 * (k : Int)))) h) : CallTo Try.prog 112 #[.int .i64 f, .int .i64 n, .int .i64 (k : Nat)] h R := by
  refine f112F_ok ?_
  unfold f112F
  rw [wrap_ar (x := (8 : Int) * ((k : Nat) : Int)) (by omega) (by omega)]
  refine Cond_dec (fun h1 => Cond_dec (fun h2 => Cond_dec (fun h3 => ?_) fun h3 => ?_) fun h2 => ?_) fun h1 => ?_
  · rw [wrap_ar (by omega) (by omega)]
    have e : decide (0 ≤ f ∧ 0 ≤ n ∧ f + n ≤ 8 * (k : Int)) = decide (n ≤ 8 * (k : Int) - f) := by
      rw [decide_eq_decide]; omega
    rw [e] at hR
    exact hR
  · rw [decide_eq_false (by omega)] at hR; exact hR
  · rw [decide_eq_false (by omega)] at hR; exact hR
  · rw [decide_eq_false (by omega)] at hR; exact hR
theorem shift8 (j : Nat) : (min (IntKind.wrap .u64 (IntKind.wrap .i64 ((8 : Int) * (((j % 8 : Nat) : Int))))).toNat (IntKind.bits .u64)) = j % 8 * 8 ∧ (0 : Int) ≤ IntKind.wrap .u64 (IntKind.wrap .i64 ((8 : Int) * (((j % 8 : Nat) : Int)))) := by
  rw [wrap_ar (x := (8 : Int) * (((j % 8 : Nat) : Int))) (by omega) (by omega), wrap_u64' (by omega) (by omega), bits_u64]
  omega
theorem u8_div {w k : Nat} : IntKind.wrap .u8 (Int.fdiv ((w : Nat) : Int) (2 ^ k)) = ((w / 2 ^ k % 256 : Nat) : Int) := by
  rw [fdiv_pow, wrap_u8']; omega
theorem tmod8 (p : Nat) : Int.tmod (p : Int) (8 : Int) = ((p % 8 : Nat) : Int) := by rw [tmod_nn (by omega)]; omega
theorem rbytes_ok (r : RT h rb M s g) (v : s.Inv) {x : Nat} (hx : x < 18446744073709551616) {f n : Int} (hn1 : n < 9223372036854775808) {R : Value → Hp → Prop}
    (hbad : ¬ s.spanOk x f n → R (.tuple #[.slice none 0 0, .int .i64 (s.spanE x f n)]) h)
    (hgood : ∀ a c ob h', s.spanOk x f n → SlAt 1 h' a n.toNat c ob ((List.range n.toNat).map fun j => bv (byteAt (s.obj (s.ident x)).raws (f.toNat + j))) → (∀ b, ob = some b → h.size ≤ b) → Kept N h h' → R (.tuple #[.slice a n.toNat c, .int .i64 0]) h') :
    CallTo Try.prog 97 #[.pointer (some (ad rb)), uv x, .int .i64 f, .int .i64 n] h R := by
  refine f97F_ok ?_
  unfold f97F
  refine rid_ok r v hx ⟨_, rfl, ?_⟩
  by_cases h0 : s.ident x = 0
  · have hs : ¬ s.spanOk x f n := fun c => c.1 h0
    have := hbad hs
    unfold RS.spanE at this
    rw [if_pos h0] at this
    exact Cond_t (by simp [h0]) this
  have hh := (RS.ident_here v h0).1
  obtain ⟨b, go, hb, hg, ha, cb, c0, cj, i1, i2⟩ := r.obj (v.here_lt hh)
  obtain ⟨_, _, q1, q2, hraw⟩ := v.shp _ hh
  have c6 : cell h ((ad rb).add 6) = some (.slice g.os.a g.os.n g.os.c) := (r.c 6).trans rfl
  have l2 := i2.len
  rw [List.length_map] at l2
  have en : go.ws.n = (s.obj (s.ident x)).raws.length := by omega
  refine Cond_f (by simp; omega) (PtrOk_mk ⟨g.os, c6, cb, PtrOk_of ha ⟨go.ws, by rw [Int.toNat_natCast]; exact (cj 2 (by omega)).trans rfl, rspan_ok (by omega) hn1 ⟨_, rfl, ?_⟩⟩⟩)
  by_cases hs : s.spanOk x f n
  · rw [decide_eq_true (by rw [en]; exact hs.2)]
    obtain ⟨_, hf0, hn0, hfn⟩ := id hs
    obtain ⟨f, rfl⟩ := Int.eq_ofNat_of_zero_le hf0
    obtain ⟨n, rfl⟩ := Int.eq_ofNat_of_zero_le hn0
    rw [Int.toNat_natCast, Int.toNat_natCast] at hgood
    refine Cond_f rfl ?_
    refine f97L1_rule (s11 := go.ws) (s12 := ⟨none, 0, 0⟩) (fun q s2 s3 s11 s12 s13 h' => ∃ (k : Nat) (ob : Option Nat), k ≤ n ∧ q = n - k ∧ s2 = (f : Int) ∧ s3 = (n : Int) ∧ s11 = go.ws ∧ s12.n = k ∧ s13 = ((f + k : Nat) : Int) ∧ SlAt 1 h' s12.a s12.n s12.c ob ((List.range k).map fun j => bv (byteAt (s.obj (s.ident x)).raws (f + j))) ∧
      (∀ b, ob = some b → h.size ≤ b) ∧ Kept N h h') n
      ⟨0, none, Nat.zero_le _, rfl, rfl, rfl, rfl, rfl, rfl, slAt_nil 1 h, nofun, Kept.refl _ _⟩ ?_
    rintro q s2 s3 s11 s12 s13 g' h1 ⟨k, ob, hk, rfl, rfl, rfl, rfl, hkn, rfl, sl, hob, kp⟩
    unfold f97L1
    rw [wrap_ar (x := ((f : Nat) : Int) + ((n : Nat) : Int)) (by omega) (by omega)]
    refine Cond_dec (fun hlt => ⟨by omega, ?_⟩) fun hge => ?_
    · have ed : IntKind.wrap .i64 (Int.tdiv ((f + k : Nat) : Int) (8 : Int)) = (((f + k) / 8 : Nat) : Int) := div8 (by omega)
      have hw : (f + k) / 8 < (s.obj (s.ident x)).raws.length := by omega
      obtain ⟨w, hw'⟩ : ∃ w, (s.obj (s.ident x)).raws[(f + k) / 8]? = some w := ⟨_, List.getElem?_eq_getElem hw⟩
      obtain ⟨b2, _, ha2, hc2, cb2⟩ := sl_at i2 (r.sep.keepN kp) hw'
      rw [ed]
      obtain ⟨es, es0⟩ := shift8 (f + k)
      refine ⟨cb2, PtrOk_of ha2 ⟨((w : Nat) : Int), by rw [Int.toNat_natCast]; exact hc2, by omega, ?_, ?_⟩⟩
      · rw [tmod8]; exact es0
      rw [tmod8, es, u8_div]
      refine Let_mk fun h2 e2 => ?_
      have k2 : Kept N h1 h2 := e2 ▸ kept_push _ _ _
      have row2 : Row h2 h1.size [bv (w / 2 ^ ((f + k) % 8 * 8) % 256)] := e2 ▸ row_new h1 #[bv (w / 2 ^ ((f + k) % 8 * 8) % 256)] 5
      have sl2 : SlAt 1 h2 s12.a s12.n s12.c ob _ := slat_kept' sl k2 fun _ _ e => e
      refine ⟨[bv (w / 2 ^ ((f + k) % 8 * 8) % 256)], reads_row row2 (fun j v hj => by rw [Nat.zero_add]; exact hj), rfl, ?_⟩
      refine appT_ok2 sl2 rfl rfl (fun v hv => by obtain rfl := List.mem_singleton.1 hv; rfl) (by omega) (by omega) fun a' c' ob' h3 s3 hcase => ?_
      have hr : (List.range (k + 1)).map (fun j => bv (byteAt (s.obj (s.ident x)).raws (f + j))) = (List.range k).map (fun j => bv (byteAt (s.obj (s.ident x)).raws (f + j))) ++ [bv (w / 2 ^ ((f + k) % 8 * 8) % 256)] := by
        rw [List.range_succ, List.map_append]
        congr 1
        show [bv (byteAt _ (f + k))] = _
        unfold byteAt
        rw [List.getD_eq_getElem?_getD, hw']
        rfl
      refine ⟨n - (k + 1), by omega, k + 1, ob', by omega, rfl, rfl, rfl, rfl, by show s12.n + 1 = k + 1; omega, by rw [wrap_ar (by omega) (by omega)]; omega, ?_, ?_, ?_⟩
      · rw [hr]; exact s3
      · intro b' e
        rcases hcase with ⟨q, _⟩ | ⟨q, _⟩
        · exact hob b' (q ▸ e)
        · rw [q] at e; obtain rfl := Option.some.inj e; exact Nat.le_trans kp.1 k2.1
      · have k3 : Kept (fun b => ob = some b) h2 h3 := by
          rcases hcase with ⟨_, q⟩ | ⟨_, q⟩
          · exact q
          · exact q.mono fun _ _ e => e.elim
        refine ⟨Nat.le_trans kp.1 (Nat.le_trans k2.1 k3.1), fun i hi _ => ?_⟩
        have h12 := Nat.le_trans kp.1 k2.1
        rw [k3.2 i (by omega) fun e => by have := hob i e; omega, k2.2 i (Nat.lt_of_lt_of_le hi kp.1) id]
        exact kp.2 i hi id
    · have : k = n := by omega
      subst this
      have := hgood s12.a s12.c ob h1 hs (by rw [hkn] at sl; exact sl) hob kp
      rw [hkn]
      exact this
  · have e : decide (0 ≤ f ∧ 0 ≤ n ∧ f + n ≤ 8 * ((go.ws.n : Nat) : Int)) = false := by rw [en]; exact decide_eq_false fun c => hs ⟨h0, c⟩
    rw [e]
    have := hbad hs
    unfold RS.spanE at this
    rw [if_neg h0, if_neg hs] at this
    exact Cond_t rfl this
theorem setObj_setObj (s : RS) (id : Nat) (o o' : RObj) : (s.setObj id o).setObj id o' = s.setObj id o' := by unfold RS.setObj; simp
theorem rsetbytes_ok (r : RT h rb M s g) (v : s.Inv) {x : Nat} (hx : x < 18446744073709551616) {f : Int} {a : Sl} {cs : List Nat} (hs : ReadsO h a.a (cs.map bv)) (hsn : a.n = cs.length) (hcs : ∀ c ∈ cs, c < 256) (hsb : ∀ p, a.a = some p → cs ≠ [] → p.block < h.size ∧ ¬ M.own p.block)
    (hn : (cs.length : Int) < 9223372036854775808) {R : Value → Hp → Prop} (hR : ∀ h' M', RT h' rb M' (s.setBytesF x f cs).1 g → Chg h M h' M' → R (.int .i64 (s.setBytesF x f cs).2) h') :
    CallTo Try.prog 99 #[.pointer (some (ad rb)), uv x, .int .i64 f, .slice a.a a.n a.c] h R := by
  refine f99F_ok ?_
  unfold f99F
  refine rid_ok r v hx ⟨_, rfl, ?_⟩
  unfold RS.setBytesF at hR
  by_cases h0 : s.ident x = 0
  · have hs' : ¬ s.spanOk x f cs.length := fun c => c.1 h0
    rw [if_neg hs'] at hR
    unfold RS.spanE at hR
    rw [if_pos h0] at hR
    exact Cond_t (by simp [h0]) (hR h M r (Chg.refl _ _))
  have hh := (RS.ident_here v h0).1
  have hidl := v.here_lt hh
  obtain ⟨b, go, hb, hg, ha, cb, c0, cj, i1, i2⟩ := r.obj hidl
  obtain ⟨_, _, q1, q2, hraw⟩ := v.shp _ hh
  have c6 : cell h ((ad rb).add 6) = some (.slice g.os.a g.os.n g.os.c) := (r.c 6).trans rfl
  have l2 := i2.len
  rw [List.length_map] at l2
  have en : go.ws.n = (s.obj (s.ident x)).raws.length := by omega
  refine Cond_f (by simp; omega) (PtrOk_mk ⟨g.os, c6, cb, PtrOk_of ha ⟨go.ws, by rw [Int.toNat_natCast]; exact (cj 2 (by omega)).trans rfl, ?_⟩⟩)
  rw [hsn]
  refine rspan_ok (by omega) hn ⟨_, rfl, ?_⟩
  by_cases hs' : s.spanOk x f cs.length
  · rw [if_pos hs'] at hR
    rw [decide_eq_true (by rw [en]; exact hs'.2)]
    obtain ⟨_, hf0, hn0, hfn⟩ := id hs'
    obtain ⟨f, rfl⟩ := Int.eq_ofNat_of_zero_le hf0
    rw [Int.toNat_natCast] at hR
    refine Cond_f rfl ?_
    have ecs : cs.take cs.length = cs := List.take_length
    refine f99L1_rule (s3 := ⟨a.a, cs.length, a.c⟩) (s10 := go.ws) (fun q s2 s3 s10 s11 h' => ∃ (k : Nat) (M' : Mem), k ≤ cs.length ∧ q = cs.length - k ∧ s2 = (f : Int) ∧ s3 = ⟨a.a, cs.length, a.c⟩ ∧ s10 = go.ws ∧ s11 = (k : Int) ∧
      RT h' rb M' (s.setObj (s.ident x) { s.obj (s.ident x) with raws := putBytes (s.obj (s.ident x)).raws f (cs.take k) }) g ∧ Chg h M h' M') cs.length
      ⟨0, M, Nat.zero_le _, rfl, rfl, rfl, rfl, rfl, ?_, Chg.refl _ _⟩ ?_
    · have : s.setObj (s.ident x) { s.obj (s.ident x) with raws := putBytes (s.obj (s.ident x)).raws f (cs.take 0) } = s := by
        unfold RS.setObj
        have e : s.objs.set (s.ident x) { s.obj (s.ident x) with raws := putBytes (s.obj (s.ident x)).raws f (cs.take 0) } = s.objs := RS.set_same (s.obj_get hidl)
        rw [e]
      rw [this]; exact r
    rintro q s2 s3 s10 s11 g' h1 ⟨k, M1, hk, rfl, rfl, rfl, rfl, rfl, r1, ch1⟩
    unfold f99L1
    refine Cond_dec (fun hlt => ?_) fun hge => ?_
    · have hlt : k < cs.length := by have : (k : Int) < ((cs.length : Nat) : Int) := hlt; omega
      obtain ⟨c, hc⟩ : ∃ c, cs[k]? = some c := ⟨_, List.getElem?_eq_getElem hlt⟩
      have hc256 := hcs c (List.mem_of_getElem? hc)
      have hob : (s.setObj (s.ident x) { s.obj (s.ident x) with raws := putBytes (s.obj (s.ident x)).raws f (cs.take k) }).obj (s.ident x) = { s.obj (s.ident x) with raws := putBytes (s.obj (s.ident x)).raws f (cs.take k) } := by rw [RS.setObj_obj _ _ hidl, if_pos rfl]
      have hidl1 : s.ident x < (s.setObj (s.ident x) { s.obj (s.ident x) with raws := putBytes (s.obj (s.ident x)).raws f (cs.take k) }).objs.length := by unfold RS.setObj; simp only [List.length_set]; exact hidl
      obtain ⟨b1, go1, hb1, hg1, ha1, cb1, c01, cj1, j1, j2⟩ := r1.obj hidl1
      rw [hg] at hg1
      obtain rfl := Option.some.inj hg1
      rw [hob] at j2
      have hpl : (putBytes (s.obj (s.ident x)).raws f (cs.take k)).length = (s.obj (s.ident x)).raws.length := putBytes_len _ _ _
      have hw : (f + k) / 8 < (putBytes (s.obj (s.ident x)).raws f (cs.take k)).length := by rw [hpl]; omega
      obtain ⟨w, hw'⟩ : ∃ w, (putBytes (s.obj (s.ident x)).raws f (cs.take k))[(f + k) / 8]? = some w := ⟨_, List.getElem?_eq_getElem hw⟩
      have hwlt : w < 18446744073709551616 := putBytes_lt hraw (fun c hc => hcs c (List.mem_of_mem_take hc)) w (List.mem_of_getElem? hw')
      obtain ⟨b2, _, ha2, hc2, cb2⟩ := sl_at j2 r1.sep hw'
      have ew : IntKind.wrap .i64 (((f : Nat) : Int) + ((k : Nat) : Int)) = ((f + k : Nat) : Int) := by rw [wrap_ar (by omega) (by omega)]; omega
      have ed : IntKind.wrap .i64 (Int.tdiv ((f + k : Nat) : Int) (8 : Int)) = (((f + k) / 8 : Nat) : Int) := div8 (by omega)
      obtain ⟨es, es0⟩ := shift8 (f + k)
      rw [ew, ed, tmod8, es]
      have hrd := reads_kept2 ch1.1 hs fun p hp hne => hsb p hp fun e => hne (by rw [e]; rfl)
      obtain ⟨p, hp⟩ : ∃ p, a.a = some p := by
        cases hq : a.a with
        | some p => exact ⟨p, rfl⟩
        | none => rw [hq] at hs; have hs : cs.map bv = [] := hs; rw [List.map_eq_nil_iff] at hs; rw [hs] at hlt; simp at hlt
      rw [hp] at hrd
      have hcell : cell h1 (p.add k) = some (bv c) := hrd k (bv c) (by rw [List.getElem?_map, hc]; rfl)
      obtain ⟨b3, go3, hg3, ha3, st⟩ := r1.setRaw (k := (f + k) / 8) hidl1 (by rw [hob]; exact hw) (putW w ((f + k) % 8 * 8) c)
      rw [hg] at hg3
      obtain rfl := Option.some.inj hg3
      refine ⟨by omega, by omega, cb2, PtrOk_of ha2 ⟨((w : Nat) : Int), by rw [Int.toNat_natCast]; exact hc2, by omega, cb2, PtrOk_of ha2 ⟨((w : Nat) : Int), by rw [Int.toNat_natCast]; exact hc2, es0, es0, by omega, ⟨by omega, by show (k : Int) < ((cs.length : Nat) : Int); omega⟩, PtrOk_of hp ⟨((c : Nat) : Int), by rw [Int.toNat_natCast, Nat.mul_one]; exact hcell, es0, cb2, PtrOk_of ha3 ?_⟩⟩⟩⟩
      rw [u8_div, putW_sub hwlt (by omega) hc256, Int.toNat_natCast]
      refine st _ fun h2 M2 r2 ch2 => ?_
      rw [hob, setObj_setObj] at r2
      refine ⟨cs.length - (k + 1), by omega, k + 1, M2, hlt, rfl, rfl, rfl, rfl, by rw [wrap_ar (by omega) (by omega)]; rfl, ?_, ch1.trans ch2⟩
      have e : putBytes (s.obj (s.ident x)).raws f (cs.take (k + 1)) = (putBytes (s.obj (s.ident x)).raws f (cs.take k)).set ((f + k) / 8) (putW w ((f + k) % 8 * 8) c) := by
        rw [RS.take_snoc hc, putBytes_snoc, List.length_take, Nat.min_eq_left (by omega)]
        unfold putByte
        rw [List.getD_eq_getElem?_getD, hw']
        rfl
      rw [e]
      exact r2
    · have hge : ¬ (k : Int) < ((cs.length : Nat) : Int) := hge
      have : k = cs.length := by omega
      subst this
      rw [ecs] at r1
      exact hR h1 M1 r1 ch1
  · rw [if_neg hs'] at hR
    have e : decide (0 ≤ f ∧ 0 ≤ ((cs.length : Nat) : Int) ∧ f + ((cs.length : Nat) : Int) ≤ 8 * ((go.ws.n : Nat) : Int)) = false := by rw [en]; exact decide_eq_false fun c => hs' ⟨h0, c⟩
    rw [e]
    unfold RS.spanE at hR
    rw [if_neg h0, if_neg hs'] at hR
    exact Cond_t rfl (hR h M r (Chg.refl _ _))
end
end Go.Ev
set_option linter.all false
set_option maxRecDepth 100000
namespace Go.Ev
open Go.Proofs
section
variable {h h' : Hp} {rb : Nat} {M : Mem} {s s' : RS} {g : RGeo}
theorem rheld_ok (r : RT h rb M s g) (v : s.Inv) {n : Int} {R : Value → Hp → Prop} (hR : R (.bool (s.hand n).isSome) h) : CallTo Try.prog 114 #[.pointer (some (ad rb)), .int .i64 n] h R := by
  have hrl := v.rl
  refine f114F_ok ?_
  unfold f114F
  have hn := r.ts_n
  have c9 : cell h ((ad rb).add 9) = some (.slice g.ts.a g.ts.n g.ts.c) := (r.c 9).trans rfl
  refine Cond_dec (fun h1 => ?_) fun h1 => ?_
  · refine PtrOk_mk ⟨g.ts, c9, Cond_dec (fun h2 => ?_) fun h2 => ?_⟩
    · obtain ⟨x, hx, hh⟩ := s.hand_words n (by omega) (by omega)
      obtain ⟨b, _, ha, hc, cb⟩ := sl_at r.rep.rt r.sep hx
      rw [wrap_ar (x := n - 1) (by omega) (by omega)]
      rw [hh] at hR
      refine PtrOk_mk ⟨g.ts, c9, ⟨by omega, by omega⟩, PtrOk_of ha ?_⟩
      cases x with
      | none => exact ⟨-1, hc, hR⟩
      | some y => exact ⟨(y : Int), hc, by rw [decide_eq_true (by omega)]; exact hR⟩
    · have : s.hand n = none := by unfold RS.hand; rw [if_neg (by omega)]
      rw [this] at hR
      exact hR
  · have : s.hand n = none := by unfold RS.hand; rw [if_neg (by omega)]
    rw [this] at hR
    exact hR
theorem rat_ok (r : RT h rb M s g) (v : s.Inv) {n : Int} {R : Value → Hp → Prop} (hR : R (.tuple #[uv (s.atF n).1, .int .i64 (s.atF n).2]) h) : CallTo Try.prog 101 #[.pointer (some (ad rb)), .int .i64 n] h R := by
  have hrl := v.rl
  refine f101F_ok ?_
  unfold f101F
  refine rheld_ok r v ⟨_, rfl, ?_⟩
  unfold RS.atF at hR
  cases hh : s.hand n with
  | none => rw [hh] at hR; exact Cond_t rfl hR
  | some id =>
    rw [hh] at hR
    obtain ⟨h1, h2, hx⟩ := RS.hand_some hh
    have hn := r.ts_n
    have c9 : cell h ((ad rb).add 9) = some (.slice g.ts.a g.ts.n g.ts.c) := (r.c 9).trans rfl
    obtain ⟨b, _, ha, hc, cb⟩ := sl_at r.rep.rt r.sep hx
    rw [wrap_ar (x := n - 1) (by omega) (by omega)]
    exact Cond_f rfl (PtrOk_mk ⟨g.ts, c9, ⟨by omega, by omega⟩, PtrOk_of ha ⟨_, hc, rref_ok r v (RS.hand_here v hh) ⟨_, rfl, hR⟩⟩⟩)
theorem rput_ok (r : RT h rb M s g) (v : s.Inv) {n : Int} {x : Nat} (hx : x < 18446744073709551616) {R : Value → Hp → Prop}
    (hR : ∀ h' M', RT h' rb M' (s.putF n x).1 g → Chg h M h' M' → R (.int .i64 (s.putF n x).2) h') : CallTo Try.prog 102 #[.pointer (some (ad rb)), .int .i64 n, uv x] h R := by
  have hrl := v.rl
  refine f102F_ok ?_
  unfold f102F
  refine rheld_ok r v ⟨_, rfl, ?_⟩
  unfold RS.putF at hR
  cases hh : s.hand n with
  | none => rw [hh] at hR; exact Cond_t rfl (hR h M r (Chg.refl _ _))
  | some id =>
    rw [hh] at hR
    obtain ⟨h1, h2, hxr⟩ := RS.hand_some hh
    have hn := r.ts_n
    have hlt := (List.getElem?_eq_some_iff.1 hxr).1
    refine Cond_f rfl (rid_ok r v hx ⟨_, rfl, ?_⟩)
    have fin : s.goodR x = true → ∀ b : Bool, b = false → f102K1 (some (ad rb)) n ((s.ident x : Nat) : Int) b h R := fun hg b hb => by
      subst hb
      rw [hg] at hR
      have c9 : cell h ((ad rb).add 9) = some (.slice g.ts.a g.ts.n g.ts.c) := (r.c 9).trans rfl
      obtain ⟨b, ha, st⟩ := r.setRoot hlt (some (s.ident x))
      unfold f102K1
      rw [wrap_ar (x := n - 1) (by omega) (by omega)]
      exact Cond_f rfl (PtrOk_mk ⟨g.ts, c9, ⟨by omega, by omega⟩, PtrOk_of ha (st _ fun h' M' r' ch => hR h' M' r' ch)⟩)
    by_cases h0 : x = 0
    · exact Cond_f (by simp [h0]) (fin (by simp [RS.goodR, h0]) _ rfl)
    · refine Cond_t (by simp; omega) ?_
      by_cases hz : s.ident x = 0
      · have hg : s.goodR x = false := by simp [RS.goodR, h0, hz]
        rw [hg] at hR
        unfold f102K1
        exact Cond_t (by simp [hz]) (hR h M r (Chg.refl _ _))
      · exact fin (by simp [RS.goodR, hz]) _ (by simp; omega)
theorem rdrop_ok (r : RT h rb M s g) (v : s.Inv) {n : Int} {R : Value → Hp → Prop}
    (hR : ∀ h' M', RT h' rb M' (s.dropF n).1 g → Chg h M h' M' → R (.int .i64 (s.dropF n).2) h') : CallTo Try.prog 103 #[.pointer (some (ad rb)), .int .i64 n] h R := by
  have hrl := v.rl
  refine f103F_ok ?_
  unfold f103F
  refine rheld_ok r v ⟨_, rfl, ?_⟩
  unfold RS.dropF at hR
  cases hh : s.hand n with
  | none => rw [hh] at hR; exact Cond_t rfl (hR h M r (Chg.refl _ _))
  | some id =>
    rw [hh] at hR
    obtain ⟨h1, h2, hxr⟩ := RS.hand_some hh
    have hn := r.ts_n
    have hlt := (List.getElem?_eq_some_iff.1 hxr).1
    have c9 : cell h ((ad rb).add 9) = some (.slice g.ts.a g.ts.n g.ts.c) := (r.c 9).trans rfl
    obtain ⟨b, ha, st⟩ := r.setRoot hlt none
    rw [wrap_ar (x := n - 1) (by omega) (by omega)]
    exact Cond_f rfl (PtrOk_mk ⟨g.ts, c9, ⟨by omega, by omega⟩, PtrOk_of ha (st _ fun h' M' r' ch => hR h' M' r' ch)⟩)
theorem rroot_ok (r : RT h rb M s g) (v : s.Inv) {x : Nat} (hx : x < 18446744073709551616) {R : Value → Hp → Prop}
    (hR : ∀ h' M' g', RT h' rb M' (s.rootF x).1 g' → Chg h M h' M' → R (.tuple #[.int .i64 ((s.rootF x).2.1 : Nat), .int .i64 (s.rootF x).2.2]) h') : CallTo Try.prog 100 #[.pointer (some (ad rb)), uv x] h R := by
  have hrl := v.rl
  refine f100F_ok ?_
  unfold f100F
  refine rid_ok r v hx ⟨_, rfl, ?_⟩
  unfold RS.rootF at hR
  have fin : s.goodR x = true → ∀ b : Bool, b = false → f100K1 (some (ad rb)) ((s.ident x : Nat) : Int) b h R := fun hg b hb => by
    subst hb
    rw [hg, if_pos rfl] at hR
    unfold f100K1
    refine Cond_f rfl ?_
    refine f100L1_rule (fun q s0 s6 s7 h' => ∃ i : Nat, i ≤ s.roots.length ∧ q = s.roots.length - i ∧ s0 = some (ad rb) ∧ s6 = ((s.ident x : Nat) : Int) ∧ s7 = (i : Int) ∧ h' = h ∧ ∀ j, j < i → ∃ x, s.roots[j]? = some (some x)) s.roots.length
      ⟨0, Nat.zero_le _, rfl, rfl, rfl, rfl, rfl, fun j hj => absurd hj (Nat.not_lt_zero _)⟩ ?_
    rintro q s0 s6 s7 g' h' ⟨i, hi, rfl, rfl, rfl, rfl, rfl, hall⟩
    unfold f100L1
    have hn := r.ts_n
    have c9 : cell h' ((ad rb).add 9) = some (.slice g.ts.a g.ts.n g.ts.c) := (r.c 9).trans rfl
    have hwr : IntKind.wrap .i64 ((i : Int) + 1) = ((i + 1 : Nat) : Int) := by rw [wrap_ar (by omega) (by omega)]; rfl
    refine PtrOk_mk ⟨g.ts, c9, Cond_dec (fun hlt => ?_) fun hge => ?_⟩
    · have hlt : i < s.roots.length := by omega
      obtain ⟨y, hy⟩ : ∃ y, s.roots[i]? = some y := ⟨_, List.getElem?_eq_getElem hlt⟩
      obtain ⟨b, _, ha, hc, cb⟩ := sl_at r.rep.rt r.sep hy
      cases y with
      | some z =>
        refine PtrOk_mk ⟨g.ts, c9, cb, PtrOk_of ha ⟨(z : Int), by rw [Int.toNat_natCast]; exact hc, Cond_f (decide_eq_false (by omega)) ⟨s.roots.length - (i + 1), by omega, i + 1, hlt, rfl, rfl, rfl, hwr, rfl, fun j hj => ?_⟩⟩⟩
        rcases Nat.lt_or_ge j i with hji | hji
        · exact hall j hji
        · obtain rfl : j = i := by omega
          exact ⟨z, hy⟩
      | none =>
        have hf : RS.freeAt s.roots = i := RS.freeAt_eq _ _ hall (.inl hy)
        rw [hf, if_pos hlt] at hR
        obtain ⟨b2, ha2, st⟩ := r.setRoot hlt (some (s.ident x))
        refine PtrOk_mk ⟨g.ts, c9, cb, PtrOk_of ha ⟨-1, by rw [Int.toNat_natCast]; exact hc, Cond_t rfl (PtrOk_mk ⟨g.ts, c9, cb, PtrOk_of ha2 ?_⟩)⟩⟩
        rw [Int.toNat_natCast, hwr]
        exact st _ fun h' M' r' ch => hR h' M' g r' ch
    · have hie : i = s.roots.length := by omega
      have hf : RS.freeAt s.roots = i := RS.freeAt_eq _ _ hall (.inr hie)
      rw [hf, if_neg (by omega)] at hR
      refine PtrOk_mk ⟨g.ts, c9, r.addRoot (s.ident x) (by omega) fun h3 M3 g3 r3 ch3 => ?_⟩
      have hn3 := r3.ts_n
      have hn3 : g3.ts.n = (s.roots ++ [some (s.ident x)]).length := hn3
      have hl : (s.roots ++ [some (s.ident x)]).length = i + 1 := by rw [List.length_append, hie]; rfl
      have c93 : cell h3 ((ad rb).add 9) = some (.slice g3.ts.a g3.ts.n g3.ts.c) := (r3.c 9).trans rfl
      refine PtrOk_mk ⟨g3.ts, c93, ?_⟩
      rw [hn3, hl]
      exact hR h3 M3 g3 r3 ch3
  by_cases h0 : x = 0
  · exact Cond_f (by simp [h0]) (fin (by simp [RS.goodR, h0]) _ rfl)
  · refine Cond_t (by simp; omega) ?_
    by_cases hz : s.ident x = 0
    · have hg : s.goodR x = false := by simp [RS.goodR, h0, hz]
      rw [hg] at hR
      unfold f100K1
      exact Cond_t (by simp [hz]) (hR h M g r (Chg.refl _ _))
    · exact fin (by simp [RS.goodR, hz]) _ (by simp; omega)
/-! ### Want, become, fit, collection's frame -/
theorem rwant_ok {u : Nat} (hu : u < 100000000) {h : Hp} {R : Value → Hp → Prop} (hR : R (.int .i64 (want u : Nat)) h) : CallTo Try.prog 110 #[.int .i64 (u : Nat)] h R := by
  refine f110F_ok ?_
  unfold f110F
  refine f110L1_rule (fun q s0 s3 h' => ∃ n : Nat, q = 4 * u - n ∧ s0 = (u : Int) ∧ s3 = (n : Int) ∧ 0 < n ∧ n < 1000000000 ∧ wantN u n = want u ∧ h' = h) (4 * u - 64) ⟨64, rfl, rfl, rfl, by omega, by omega, rfl, rfl⟩ ?_
  rintro q s0 s3 g h' ⟨n, rfl, rfl, rfl, h0, h1, h2, rfl⟩
  unfold f110L1
  rw [wrap_i64' (x := (4 : Int) * u) (by omega) (by omega), wrap_i64' (x := (3 : Int) * n) (by omega) (by omega)]
  refine Cond_dec (fun hlt => ?_) fun hge => ?_
  · rw [wrap_i64' (by omega) (by omega)]
    exact ⟨4 * u - 2 * n, by omega, 2 * n, rfl, rfl, by omega, by omega, by omega, by rw [← h2, wantN_up (by omega) h0], rfl⟩
  · rw [← h2, wantN_end (by omega)] at hR
    exact hR
theorem rbecome_ok (r : RT h rb M s g) {n : Nat} {R : Value → Hp → Prop} (hR : ∀ h' M', RT h' rb M' (s.become n) g → Chg h M h' M' → R (.tuple #[]) h') : CallTo Try.prog 104 #[.pointer (some (ad rb)), .int .i64 (n : Nat)] h R := by
  refine f104F_ok ?_
  unfold f104F
  refine PtrOk_mk ⟨_, (r.c 1).trans rfl, ?_⟩
  by_cases he : n = s.half
  · have e : s.become n = s := by unfold RS.become; rw [if_pos he]
    rw [e] at hR
    exact Cond_f (by simp [he]) (hR h M r (Chg.refl _ _))
  · have e : s.become n = { s with half := n, resz := IntKind.wrap .i64 (s.resz + 1) } := by unfold RS.become; rw [if_neg he]
    rw [e] at hR
    refine Cond_t (by simp; omega) (PtrOk_mk (r.num (i := 1) (s' := { s with half := n }) (add_ad _ _) (by omega) rfl rfl rfl rfl rfl fun h1 M1 r1 c1 => PtrOk_mk ⟨_, (r1.c 11).trans rfl, PtrOk_mk ?_⟩))
    exact r1.num (i := 11) (s' := { s with half := n, resz := IntKind.wrap .i64 (s.resz + 1) }) (add_ad _ _) (by omega) rfl rfl rfl rfl rfl fun h2 M2 r2 c2 => hR h2 M2 r2 (c1.trans c2)
theorem rfit_ok (r : RT h rb M s g) (v : s.Inv) {k : Nat} (hk : k ≤ 1000000) {R : Value → Hp → Prop} (hR : ∀ h' M', RT h' rb M' (s.fit k) g → Chg h M h' M' → R (.tuple #[]) h') : CallTo Try.prog 90 #[.pointer (some (ad rb)), .int .i64 (k : Nat)] h R := by
  have i1 := v.u1
  have i2 := v.u2
  have i3 := v.h2
  have i4 := v.l2
  have i5 := v.h1
  obtain ⟨w1, w2, w3⟩ := want_facts (s.used + k)
  refine f90F_ok ?_
  unfold f90F
  have e0 : IntKind.wrap .i64 (((s.used : Nat) : Int) + ((k : Nat) : Int)) = ((s.used + k : Nat) : Int) := by rw [wrap_ar (by omega) (by omega)]; omega
  have c1 : cell h ((ad rb).add 1) = some (.int .i64 (s.half : Nat)) := (r.c 1).trans rfl
  refine PtrOk_mk ⟨((s.used : Nat) : Int), (r.c 2).trans rfl, ?_⟩
  rw [e0]
  refine rwant_ok (by omega) ⟨_, rfl, PtrOk_mk ⟨((s.half : Nat) : Int), c1, ?_⟩⟩
  rw [wrap_ar (x := (4 : Int) * _) (by omega) (by omega), wrap_ar (x := (3 : Int) * _) (by omega) (by omega), wrap_ar (x := (8 : Int) * _) (by omega) (by omega)]
  refine Cond_dec (fun hc => ?_) fun hc => ?_
  · have hc : 3 * s.half < 4 * (s.used + k) := by omega
    have ef : s.fit k = if s.half < min (want (s.used + k)) ((s.limit - s.large) / 2) then s.become (min (want (s.used + k)) ((s.limit - s.large) / 2)) else s := by unfold RS.fit; rw [if_pos hc]
    have e1 : IntKind.wrap .i64 (Int.tdiv (IntKind.wrap .i64 (((s.limit : Nat) : Int) - ((s.large : Nat) : Int))) (2 : Int)) = (((s.limit - s.large) / 2 : Nat) : Int) := by
      rw [wrap_ar (x := ((s.limit : Nat) : Int) - ((s.large : Nat) : Int)) (by omega) (by omega), tdiv_nn (by omega), wrap_ar (by omega) (by omega)]; omega
    have fin : ∀ n : Nat, n = min (want (s.used + k)) ((s.limit - s.large) / 2) → f90K1 (some (ad rb)) (n : Nat) h R := fun n hn => by
      unfold f90K1
      rw [ef, ← hn] at hR
      refine PtrOk_mk ⟨((s.half : Nat) : Int), c1, Cond_dec (fun ht => ?_) fun ht => ?_⟩
      · rw [if_pos (by omega)] at hR
        exact rbecome_ok r fun h' M' r' ch => ⟨rfl, hR h' M' r' ch⟩
      · rw [if_neg (by omega)] at hR
        exact hR h M r (Chg.refl _ _)
    refine PtrOk_mk ⟨((s.limit : Nat) : Int), r.c0, PtrOk_mk ⟨((s.large : Nat) : Int), (r.c 3).trans rfl, by omega, ?_⟩⟩
    rw [e1]
    refine Cond_dec (fun hd => fin _ (by omega)) fun hd => fin _ (by omega)
  · have hc : ¬ 3 * s.half < 4 * (s.used + k) := by omega
    have ef : s.fit k = if 64 < s.half ∧ 8 * (s.used + k) < s.half then s.become (want (s.used + k)) else s := by unfold RS.fit; rw [if_neg hc]
    refine PtrOk_mk ⟨((s.half : Nat) : Int), c1, Cond_dec (fun h1 => PtrOk_mk ⟨((s.half : Nat) : Int), c1, ?_⟩) fun h1 => ?_⟩
    · unfold f90K2
      refine Cond_dec (fun h2 => ?_) fun h2 => ?_
      · rw [ef, if_pos (by omega)] at hR
        exact rbecome_ok r fun h' M' r' ch => ⟨rfl, hR h' M' r' ch⟩
      · rw [ef, if_neg (by omega)] at hR
        exact hR h M r (Chg.refl _ _)
    · unfold f90K2
      rw [ef, if_neg (by omega)] at hR
      exact Cond_f rfl (hR h M r (Chg.refl _ _))
end
end Go.Ev
set_option linter.all false
set_option maxRecDepth 100000
namespace Go.Ev
open Go.Proofs
def doneV (s : RS) (g : RS.Gc) : List Value := (List.range s.objs.length).map fun id => Value.bool (decide (id ∈ g.copied ∨ id ∈ g.line))
theorem doneV_len (s : RS) (g : RS.Gc) : (doneV s g).length = s.objs.length := by unfold doneV; simp
theorem doneV_at {s : RS} {g : RS.Gc} {id : Nat} (h : id < s.objs.length) : (doneV s g)[id]? = some (.bool (decide (id ∈ g.copied ∨ id ∈ g.line))) := by
  unfold doneV
  rw [List.getElem?_map, List.getElem?_range h]; rfl
theorem doneV_set {s : RS} {g g' : RS.Gc} {id : Nat} (h : id < s.objs.length) (e : ∀ x, (x ∈ g'.copied ∨ x ∈ g'.line) ↔ (x = id ∨ x ∈ g.copied ∨ x ∈ g.line)) : (doneV s g).set id (.bool true) = doneV s g' := by
  apply List.ext_getElem?
  intro j
  by_cases hj : j = id
  · subst hj
    rw [List.getElem?_set_self (by rw [doneV_len]; exact h), doneV_at h, decide_eq_true ((e j).2 (.inl rfl))]
  · rw [List.getElem?_set_ne (Ne.symm hj)]
    by_cases hl : j < s.objs.length
    · rw [doneV_at hl, doneV_at hl]
      congr 2
      rw [decide_eq_decide, e j]
      constructor
      · exact .inr
      · rintro (h | h)
        · exact absurd h hj
        · exact h
    · rw [List.getElem?_eq_none (by rw [doneV_len]; omega), List.getElem?_eq_none (by rw [doneV_len]; omega)]
theorem or_l {a b c : Prop} : ((a ∨ b) ∨ c) ↔ (b ∨ a ∨ c) := ⟨fun h => h.elim (fun h => h.elim (fun h => .inr (.inl h)) .inl) (fun h => .inr (.inr h)), fun h => h.elim (fun h => .inl (.inr h)) fun h => h.elim (fun h => .inl (.inl h)) .inr⟩
theorem or_r {a b c : Prop} : (a ∨ b ∨ c) ↔ (c ∨ a ∨ b) := ⟨fun h => h.elim (fun h => .inr (.inl h)) fun h => h.elim (fun h => .inr (.inr h)) .inl, fun h => h.elim (fun h => .inr (.inr h)) fun h => h.elim .inl fun h => .inr (.inl h)⟩
theorem RS.small_len (s : RS) : s.small.length ≤ s.sizes s.small := by
  unfold RS.sizes
  have : ∀ l : List Nat, l.length ≤ (l.map s.size).sum := by
    intro l
    induction l with
    | nil => exact Nat.le_refl _
    | cons y l ih => rw [List.map_cons, List.sum_cons, List.length_cons]; have : 1 ≤ s.size y := (by unfold RS.size RObj.size; omega); omega
  exact this _
structure WT (h : Hp) (wb : Nat) (W : Mem) (s : RS) (g : RS.Gc) (ds cs ls : Sl) : Prop where
  sep : Sep h W
  loc : W.loc 0 = some wb
  hd : W.cont 0 = [slV ds, slV cs, slV ls]
  dn : IsSl 1 W 1 ds (doneV s g)
  cp : IsSl 1 W 2 cs (g.copied.map nv)
  ln : IsSl 1 W 3 ls (g.line.map nv)
section
variable {h h' : Hp} {rb wb : Nat} {M W : Mem} {s : RS} {gg : RGeo} {g : RS.Gc} {ds cs ls : Sl}
theorem WT.c (w : WT h wb W s g ds cs ls) (i : Nat) : cell h ((ad wb).add i) = [slV ds, slV cs, slV ls][i]? := by rw [w.sep.cellA w.loc, w.hd]
theorem WT.c0 (w : WT h wb W s g ds cs ls) : cell h (ad wb) = some (slV ds) := by rw [w.sep.cell0 w.loc, w.hd]; rfl
theorem WT.keep (w : WT h wb W s g ds cs ls) {S : Nat → Prop} (k : Kept S h h') (hS : ∀ b, W.own b → ¬ S b) : WT h' wb W s g ds cs ls := ⟨w.sep.keep k hS, w.loc, w.hd, w.dn, w.cp, w.ln⟩
/-- What stays apart. -/
theorem apart_chg {W' : Mem} (r : Sep h M) (dj : ∀ b, M.own b → ¬ W.own b) (ch : Chg h W h' W') : ∀ b, M.own b → ¬ W'.own b := fun b hb hw => by
  rcases ch.2 b hw with h | h
  · exact dj b hb h
  · have := r.own_lt hb; omega
theorem reach_ok (r : RT h rb M s gg) (v : s.Inv) (w : WT h wb W s g ds cs ls) (dj : ∀ b, M.own b → ¬ W.own b) (k : RS.GcOk s g) {id : Nat} (hid : id = 0 ∨ s.here id) {R : Value → Hp → Prop}
    (hR : ∀ h' W' ds' cs' ls', RT h' rb M s gg → WT h' wb W' s (s.reach g id) ds' cs' ls' → (∀ b, M.own b → ¬ W'.own b) → Chg h W h' W' → R (.tuple #[]) h') : CallTo Try.prog 115 #[.pointer (some (ad wb)), .pointer (some (ad rb)), nv id] h R := by
  have i5 := v.sll; have i2 := v.u1; have i3 := v.u2; have i4 := v.h2; have i6 := v.l2
  refine f115F_ok ?_
  unfold f115F
  by_cases h0 : id = 0
  · subst h0
    refine Cond_t rfl ?_
    unfold f115K1
    rw [RS.reach_in (.inl rfl)] at hR
    exact Cond_t rfl (hR h W ds cs ls r w dj (Chg.refl _ _))
  have hh := hid.resolve_left h0
  have hlt := v.here_lt hh
  refine Cond_f (by simp; omega) ?_
  obtain ⟨b, hb, ha, hc⟩ := w.dn.at w.sep (doneV_at hlt)
  have hdn := w.dn.len
  rw [doneV_len] at hdn
  have cb : (0 : Int) ≤ (id : Int) ∧ (id : Int) < ((ds.n : Nat) : Int) := by omega
  refine PtrOk_mk ⟨ds, w.c0, cb, PtrOk_of ha ⟨_, by rw [Int.toNat_natCast, add_ad, Nat.mul_one]; exact hc, ?_⟩⟩
  unfold f115K1
  by_cases hin : id ∈ g.copied ∨ id ∈ g.line
  · rw [decide_eq_true hin]
    rw [RS.reach_in (.inr hin)] at hR
    exact Cond_t rfl (hR h W ds cs ls r w dj (Chg.refl _ _))
  rw [decide_eq_false hin]
  have hn : ¬ (id = 0 ∨ id ∈ g.copied ∨ id ∈ g.line) := fun c => c.elim h0 hin
  refine Cond_f rfl (PtrOk_mk ⟨ds, w.c0, cb, PtrOk_of ha ?_⟩)
  rw [Int.toNat_natCast]
  obtain ⟨q1, q2⟩ := w.dn.set hb (.bool true) (o := id) (by rw [doneV_len]; exact hlt)
  refine w.sep.st hb (by rw [add_ad, Nat.mul_one]) q1 fun h1 sp1 ch1 => PtrOk_mk ?_
  have r1 := r.keep ch1.1 dj
  have dj1 := apart_chg r.sep dj ch1
  obtain ⟨ob, go, hob, hg, hoa, ocb, oc0, ocj, _, _⟩ := r1.obj hlt
  have c6 : cell h1 ((ad rb).add 6) = some (.slice gg.os.a gg.os.n gg.os.c) := (r1.c 6).trans rfl
  have l0 : (W.upd 1 (some b) ((W.cont 1).set id (.bool true))).loc 0 = some wb := by rw [Mem.loc_ne _ _ _ (by omega)]; exact w.loc
  have c0 : (W.upd 1 (some b) ((W.cont 1).set id (.bool true))).cont 0 = [slV ds, slV cs, slV ls] := by rw [Mem.cont_ne _ _ _ (by omega)]; exact w.hd
  have hl2 := k.len2
  have hcn := w.cp.len
  have hln := w.ln.len
  rw [List.length_map] at hcn hln
  have hsz := s.small_len
  refine ⟨gg.os, c6, ocb, PtrOk_of hoa ⟨_, (ocj 4 (by omega)).trans rfl, ?_⟩⟩
  cases hbig : (s.obj id).big with
  | true =>
    rw [RS.reach_big hn hbig] at hR
    refine Cond_t rfl (PtrOk_mk ⟨ls, by rw [sp1.cellA l0, c0]; rfl, ?_⟩)
    refine (w.ln.other (by omega)).app1 sp1 rfl rfl (fun v hv => by obtain rfl := List.mem_singleton.1 hv; rfl) (by omega) (by omega) fun a' c' h3 ob3 c3 sp3 sl3 ch3 => PtrOk_mk ?_
    have l03 : ((W.upd 1 (some b) ((W.cont 1).set id (.bool true))).upd 3 ob3 c3).loc 0 = some wb := by rw [Mem.loc_ne _ _ _ (by omega)]; exact l0
    have c03 : ((W.upd 1 (some b) ((W.cont 1).set id (.bool true))).upd 3 ob3 c3).cont 0 = [slV ds, slV cs, slV ls] := by rw [Mem.cont_ne _ _ _ (by omega)]; exact c0
    refine sp3.st l03 (add_ad _ _) (by rw [c03]; show 2 < 3; omega) fun h4 sp4 ch4 => ?_
    have dj3 := apart_chg r1.sep dj1 ch3
    have r3 := r1.keep ch3.1 dj1
    have r4 := r3.keep ch4.1 dj3
    refine hR h4 _ ds cs ⟨a', ls.n + 1, c'⟩ r4 ⟨sp4, Mem.loc_self .., ?_, ?_, ?_, ?_⟩ (apart_chg r3.sep dj3 ch4) ((ch1.trans ch3).trans ch4)
    · rw [Mem.cont_self, c03]; rfl
    · rw [← doneV_set (g := g) (g' := { g with line := g.line ++ [id] }) hlt (fun x => by simp only [List.mem_append, List.mem_singleton]; exact or_r)]
      exact (q2.other (by omega)).other (by omega)
    · exact ((w.cp.other (by omega)).other (by omega)).other (by omega)
    · show IsSl 1 _ 3 _ ((g.line ++ [id]).map nv)
      rw [List.map_append]
      exact sl3.other (by omega)
  | false =>
    rw [RS.reach_small hn hbig] at hR
    refine Cond_f rfl (PtrOk_mk ⟨cs, by rw [sp1.cellA l0, c0]; rfl, ?_⟩)
    refine (w.cp.other (by omega)).app1 sp1 rfl rfl (fun v hv => by obtain rfl := List.mem_singleton.1 hv; rfl) (by omega) (by omega) fun a' c' h3 ob3 c3 sp3 sl3 ch3 => PtrOk_mk ?_
    have l03 : ((W.upd 1 (some b) ((W.cont 1).set id (.bool true))).upd 2 ob3 c3).loc 0 = some wb := by rw [Mem.loc_ne _ _ _ (by omega)]; exact l0
    have c03 : ((W.upd 1 (some b) ((W.cont 1).set id (.bool true))).upd 2 ob3 c3).cont 0 = [slV ds, slV cs, slV ls] := by rw [Mem.cont_ne _ _ _ (by omega)]; exact c0
    refine sp3.st l03 (add_ad _ _) (by rw [c03]; show 1 < 3; omega) fun h4 sp4 ch4 => ?_
    have dj3 := apart_chg r1.sep dj1 ch3
    have r3 := r1.keep ch3.1 dj1
    have r4 := r3.keep ch4.1 dj3
    refine hR h4 _ ds ⟨a', cs.n + 1, c'⟩ ls r4 ⟨sp4, Mem.loc_self .., ?_, ?_, ?_, ?_⟩ (apart_chg r3.sep dj3 ch4) ((ch1.trans ch3).trans ch4)
    · rw [Mem.cont_self, c03]; rfl
    · rw [← doneV_set (g := g) (g' := { g with copied := g.copied ++ [id] }) hlt (fun x => by simp only [List.mem_append, List.mem_singleton]; exact or_l)]
      exact (q2.other (by omega)).other (by omega)
    · show IsSl 1 _ 2 _ ((g.copied ++ [id]).map nv)
      rw [List.map_append]
      exact sl3.other (by omega)
    · exact ((w.ln.other (by omega)).other (by omega)).other (by omega)
theorem reach_neg {R : Value → Hp → Prop} (hR : R (.tuple #[]) h) : CallTo Try.prog 115 #[.pointer (some (ad wb)), .pointer (some (ad rb)), .int .i64 (-1)] h R := by
  refine f115F_ok ?_
  unfold f115F
  refine Cond_t rfl ?_
  unfold f115K1
  exact Cond_t rfl hR
/-- The refs of an object, one after the other. -/
theorem reached_ok (r : RT h rb M s gg) (v : s.Inv) (hol : s.objs.length ≤ 100000000) {R : Value → Hp → Prop}
    (hR : ∀ h' wb W ds cs ls, RT h' rb M s gg → WT h' wb W s s.gcEnd ds cs ls → (∀ b, W.own b → h.size ≤ b) → Kept N h h' → R (.pointer (some (ad wb))) h') : CallTo Try.prog 108 #[.pointer (some (ad rb))] h R := by
  have i5 := v.sll; have i2 := v.u1; have i3 := v.u2; have i4 := v.h2; have i6 := v.l2
  have hrl := v.rl
  have hsz := s.small_len
  refine f108F_ok ?_
  unfold f108F
  have hon := r.os_n
  have c6 : cell h ((ad rb).add 6) = some (.slice gg.os.a gg.os.n gg.os.c) := (r.c 6).trans rfl
  refine PtrOk_mk ⟨gg.os, c6, ⟨by omega, by omega⟩, by omega, by omega, ?_⟩
  rw [Int.toNat_natCast, zrow_one, hon]
  let W0 : Mem := ⟨fun _ => none, fun _ => []⟩
  have s0 : Sep h W0 := ⟨nofun, nofun⟩
  have ow0 : ∀ b, ¬ W0.own b := fun b ⟨x, hx⟩ => by cases hx
  refine Let_mk fun h1 e1 => ?_
  obtain ⟨s1, ch1⟩ := s0.push 1 (List.replicate s.objs.length (Value.bool false)).toArray 4
  rw [← e1] at s1 ch1
  refine Let_mk fun h2 e2 => ?_
  obtain ⟨s2, ch2⟩ := s1.push 0 #[.slice (some (nb h)) s.objs.length s.objs.length, .slice none 0 0, .slice none 0 0] 162
  rw [← e2] at s2 ch2
  have ch02 := ch1.trans ch2
  have hWf : ∀ (W : Mem) h', Chg h W0 h' W → (∀ b, W.own b → h.size ≤ b) ∧ Kept N h h' := fun W h' ch => ⟨fun b hb => (ch.2 b hb).resolve_left (ow0 b), ch.1.mono fun b _ e => ow0 b e⟩
  obtain ⟨f2, k2⟩ := hWf _ _ ch02
  have r2 := r.keep k2 fun _ _ e => e
  have hlt : ∀ b, M.own b → b < h.size := fun b hb => r.sep.own_lt hb
  have dj2 : ∀ b, M.own b → ¬ ((W0.upd 1 (some h.size) (List.replicate s.objs.length (Value.bool false)).toArray.toList).upd 0 (some h1.size) #[.slice (some (nb h)) s.objs.length s.objs.length, .slice none 0 0, .slice none 0 0].toList).own b := fun b hb hw => by have := hlt b hb; have := f2 b hw; omega
  have hds : doneV s ⟨[], [], 0, 0⟩ = List.replicate s.objs.length (Value.bool false) := by
    unfold doneV
    apply List.ext_getElem?
    intro j
    rw [List.getElem?_map, List.getElem?_replicate]
    by_cases hj : j < s.objs.length
    · rw [List.getElem?_range hj, if_pos hj]; simp
    · rw [List.getElem?_eq_none (by simp; omega), if_neg hj]; rfl
  have w2 : WT h2 h1.size ((W0.upd 1 (some h.size) (List.replicate s.objs.length (Value.bool false)).toArray.toList).upd 0 (some h1.size) #[.slice (some (nb h)) s.objs.length s.objs.length, .slice none 0 0, .slice none 0 0].toList) s ⟨[], [], 0, 0⟩
      ⟨some (ad h.size), s.objs.length, s.objs.length⟩ ⟨none, 0, 0⟩ ⟨none, 0, 0⟩ := by
    refine ⟨s2, Mem.loc_self .., Mem.cont_self .., ⟨by rw [doneV_len]; simp, fun e => ?_, fun b e => ?_⟩, ⟨by simp, fun _ => ⟨rfl, rfl, rfl⟩, fun b e => ?_⟩, ⟨by simp, fun _ => ⟨rfl, rfl, rfl⟩, fun b e => ?_⟩⟩
    · rw [Mem.loc_ne _ _ _ (by omega), Mem.loc_self] at e; cases e
    · rw [Mem.loc_ne _ _ _ (by omega), Mem.loc_self] at e
      obtain rfl := Option.some.inj e
      rw [Mem.cont_ne _ _ _ (by omega), Mem.cont_self, hds]
      exact ⟨rfl, Nat.le_refl _, [], by simp, by simp⟩
    · rw [Mem.loc_ne _ _ _ (by omega), Mem.loc_ne _ _ _ (by omega)] at e; cases e
    · rw [Mem.loc_ne _ _ _ (by omega), Mem.loc_ne _ _ _ (by omega)] at e; cases e
  have enb : nb h1 = ad h1.size := rfl
  rw [enb]
  generalize h1.size = wb at w2 dj2 ch02 ⊢
  refine f108L1_rule (fun q s0 s3 s4 h' => ∃ (i : Nat) (W : Mem) (ds cs ls : Sl), i ≤ s.roots.length ∧ q = s.roots.length - i ∧ s0 = some (ad rb) ∧ s3 = ad wb ∧ s4 = (i : Int) ∧ RT h' rb M s gg ∧ WT h' wb W s (s.gR i) ds cs ls ∧ (∀ b, M.own b → ¬ W.own b) ∧ Chg h W0 h' W) s.roots.length
    ⟨0, _, _, _, _, Nat.zero_le _, rfl, rfl, rfl, rfl, r2, w2, dj2, ch02⟩ ?_
  rintro q s0 s3 s4 g' h3 ⟨i, W3, ds3, cs3, ls3, hi, rfl, rfl, rfl, rfl, r3, w3, dj3, ch3⟩
  unfold f108L1
  have c9 : cell h3 ((ad rb).add 9) = some (.slice gg.ts.a gg.ts.n gg.ts.c) := (r3.c 9).trans rfl
  have htn := r3.ts_n
  refine PtrOk_mk ⟨gg.ts, c9, Cond_dec (fun hlt' => ?_) fun hge => ?_⟩
  · have hlt' : i < s.roots.length := by omega
    obtain ⟨y, hy⟩ : ∃ y, s.roots[i]? = some y := ⟨_, List.getElem?_eq_getElem hlt'⟩
    obtain ⟨b, _, ha, hc, cb⟩ := sl_at r3.rep.rt r3.sep hy
    have hwr : IntKind.wrap .i64 ((i : Int) + 1) = ((i + 1 : Nat) : Int) := by rw [wrap_ar (by omega) (by omega)]; rfl
    cases y with
    | none =>
      refine PtrOk_mk ⟨gg.ts, c9, cb, PtrOk_of ha ⟨-1, by rw [Int.toNat_natCast]; exact hc, reach_neg ⟨rfl, s.roots.length - (i + 1), by omega, i + 1, W3, ds3, cs3, ls3, hlt', rfl, rfl, rfl, hwr, r3, ?_, dj3, ch3⟩⟩⟩
      rw [RS.gR_none hy]; exact w3
    | some id =>
      refine PtrOk_mk ⟨gg.ts, c9, cb, PtrOk_of ha ⟨((id : Nat) : Int), by rw [Int.toNat_natCast]; exact hc, ?_⟩⟩
      refine reach_ok (id := id) r3 v w3 dj3 (RS.gR_ok v i) (v.rt id (List.mem_of_getElem? hy)) fun h4 W4 ds4 cs4 ls4 r4 w4 dj4 ch4 => ⟨rfl, s.roots.length - (i + 1), by omega, i + 1, W4, ds4, cs4, ls4, hlt', rfl, rfl, rfl, hwr, r4, ?_, dj4, ch3.trans ch4⟩
      rw [RS.gR_some hy]; exact w4
  have : i = s.roots.length := by omega
  subst this
  rw [RS.gR_len] at w3
  refine f108L2_rule (fun q s0 s3 s5 s6 h' => ∃ (n : Nat) (W : Mem) (ds cs ls : Sl), q = (s.small.length + s.slots.length) - n ∧ s0 = some (ad rb) ∧ s3 = ad wb ∧ s5 = ((s.gcAt n).a : Nat) ∧ s6 = ((s.gcAt n).b : Nat) ∧ RT h' rb M s gg ∧ WT h' wb W s (s.gcAt n) ds cs ls ∧ (∀ b, M.own b → ¬ W.own b) ∧ Chg h W0 h' W ∧
    (s.gcAt n).a + (s.gcAt n).b = n) (s.small.length + s.slots.length)
    ⟨0, W3, ds3, cs3, ls3, rfl, rfl, rfl, by show (0 : Int) = ((s.gc0.a : Nat) : Int); rw [s.gc0_ab.1]; rfl, by show (0 : Int) = ((s.gc0.b : Nat) : Int); rw [s.gc0_ab.2]; rfl, r3, w3, dj3, ch3, by show s.gc0.a + s.gc0.b = 0; have := s.gc0_ab; omega⟩ ?_
  rintro q s0 s3 s5 s6 g' h4 ⟨n, W4, ds4, cs4, ls4, rfl, rfl, rfl, rfl, rfl, r4, w4, dj4, ch4, hn⟩
  have k := RS.GcOk.at v n
  have eg : s.gcAt (n + 1) = s.gcStep (s.gcAt n) := rfl
  generalize hgn : s.gcAt n = gn at *
  have hl2 := k.len2
  have ka := k.a
  have kb := k.b
  have hcn := w4.cp.len
  have hln := w4.ln.len
  rw [List.length_map] at hcn hln
  have cc : cell h4 ((ad wb).add 1) = some (.slice cs4.a cs4.n cs4.c) := (w4.c 1).trans rfl
  have cl : cell h4 ((ad wb).add 2) = some (.slice ls4.a ls4.n ls4.c) := (w4.c 2).trans rfl
  /- the inner loop -/
  have inner : ∀ (g1 : RS.Gc) (id : Nat) (x5 x6 : Int) (J2 : Nat → Option Addr → Addr → Int → Int → Hp → Prop) (n2 : Nat), RS.GcOk s g1 → g1.copied = gn.copied → g1.line = gn.line → s.here id →
      (∀ h5 W5 ds5 cs5 ls5, RT h5 rb M s gg → WT h5 wb W5 s (s.reachL g1 (s.obj id).refs) ds5 cs5 ls5 → (∀ b, M.own b → ¬ W5.own b) → Chg h W0 h5 W5 → ∃ m, m < n2 ∧ J2 m (some (ad rb)) (ad wb) x5 x6 h5) →
      f108K2 J2 n2 (some (ad rb)) (ad wb) x5 x6 (id : Int) h4 R := by
    intro g1 id x5 x6 J2 n2 k1 e1 e2 hh hfin
    have hidl := v.here_lt hh
    obtain ⟨_, _, q1, _, _⟩ := v.shp id hh
    unfold f108K2
    refine f108L3_rule (fun q s0 s3 s5 s6 s7 s8 h' => ∃ (j : Nat) (W : Mem) (ds cs ls : Sl), j ≤ (s.obj id).refs.length ∧ q = (s.obj id).refs.length - j ∧ s0 = some (ad rb) ∧ s3 = ad wb ∧ s5 = x5 ∧ s6 = x6 ∧ s7 = (id : Int) ∧ s8 = (j : Int) ∧ RT h' rb M s gg ∧
      WT h' wb W s (s.reachL g1 ((s.obj id).refs.take j)) ds cs ls ∧ (∀ b, M.own b → ¬ W.own b) ∧ Chg h W0 h' W) (s.obj id).refs.length
      ⟨0, W4, ds4, cs4, ls4, Nat.zero_le _, rfl, rfl, rfl, rfl, rfl, rfl, rfl, r4, ⟨w4.sep, w4.loc, w4.hd, ?_, ?_, ?_⟩, dj4, ch4⟩ ?_
    · have : doneV s (s.reachL g1 ((s.obj id).refs.take 0)) = doneV s gn := by
        show doneV s g1 = _
        unfold doneV
        rw [e1, e2]
      rw [this]; exact w4.dn
    · show IsSl 1 W4 2 cs4 (g1.copied.map nv); rw [e1]; exact w4.cp
    · show IsSl 1 W4 3 ls4 (g1.line.map nv); rw [e2]; exact w4.ln
    rintro q s0 s3 s5 s6 s7 s8 g'' h5 ⟨j, W5, ds5, cs5, ls5, hj, rfl, rfl, rfl, rfl, rfl, rfl, rfl, r5, w5, dj5, ch5⟩
    unfold f108L3
    obtain ⟨ob, go, hob, hg, hoa, ocb, oc0, ocj, i1, _⟩ := r5.obj hidl
    have c6 : cell h5 ((ad rb).add 6) = some (.slice gg.os.a gg.os.n gg.os.c) := (r5.c 6).trans rfl
    have l1 := i1.len
    rw [List.length_map] at l1
    have hwr : IntKind.wrap .i64 ((j : Int) + 1) = ((j + 1 : Nat) : Int) := by rw [wrap_ar (by omega) (by omega)]; rfl
    refine PtrOk_mk ⟨gg.os, c6, ocb, PtrOk_of hoa ⟨go.rs, by rw [Int.toNat_natCast]; exact (ocj 1 (by omega)).trans rfl, Cond_dec (fun hlt5 => ?_) fun hge5 => ?_⟩⟩
    · have hjl : j < (s.obj id).refs.length := by omega
      obtain ⟨y, hy⟩ : ∃ y, (s.obj id).refs[j]? = some y := ⟨_, List.getElem?_eq_getElem hjl⟩
      obtain ⟨b2, _, ha2, hc2, cb2⟩ := sl_at i1 r5.sep hy
      refine PtrOk_mk ⟨gg.os, c6, ocb, PtrOk_of hoa ⟨go.rs, by rw [Int.toNat_natCast]; exact (ocj 1 (by omega)).trans rfl, cb2, PtrOk_of ha2 ⟨((y : Nat) : Int), by rw [Int.toNat_natCast]; exact hc2, ?_⟩⟩⟩
      have k5 := k1.reachL v (ids := (s.obj id).refs.take j) fun x hx => v.rf id hh x (List.mem_of_mem_take hx)
      refine reach_ok (id := y) r5 v w5 dj5 k5 (v.rf id hh y (List.mem_of_getElem? hy)) fun h6 W6 ds6 cs6 ls6 r6 w6 dj6 ch6 => ⟨rfl, (s.obj id).refs.length - (j + 1), by omega, j + 1, W6, ds6, cs6, ls6, hjl, rfl, rfl, rfl, rfl, rfl, rfl, hwr, r6, ?_, dj6, ch5.trans ch6⟩
      rw [RS.take_snoc hy, RS.reachL_snoc]; exact w6
    · have : j = (s.obj id).refs.length := by omega
      subst this
      rw [List.take_length] at w5
      exact hfin h5 W5 ds5 cs5 ls5 r5 w5 dj5 ch5
  unfold f108L2
  refine ⟨cs4, cc, ?_⟩
  refine Cond_dec (fun hlt4 => ?_) fun hge4 => ?_
  · have hal : gn.a < gn.copied.length := by omega
    obtain ⟨id, hid⟩ : ∃ id, gn.copied[gn.a]? = some id := ⟨_, List.getElem?_eq_getElem hal⟩
    obtain ⟨b, _, ha, hc, cb⟩ := sl_at w4.cp w4.sep hid
    have hwr : IntKind.wrap .i64 (((gn.a : Nat) : Int) + 1) = ((gn.a + 1 : Nat) : Int) := by rw [wrap_ar (by omega) (by omega)]; rfl
    unfold f108K1
    refine Cond_t rfl ⟨cs4, cc, Cond_dec (fun _ => ⟨cs4, cc, cb, PtrOk_of ha ⟨((id : Nat) : Int), by rw [Int.toNat_natCast]; exact hc, ?_⟩⟩) fun hx => absurd hlt4 hx⟩
    refine inner gn id _ _ _ _ k rfl rfl (k.here (.inl (List.mem_of_getElem? hid))) fun h5 W5 ds5 cs5 ls5 r5 w5 dj5 ch5 => ?_
    rw [RS.gcStep_small hid] at eg
    refine ⟨s.small.length + s.slots.length - (n + 1), by omega, n + 1, W5, ds5, cs5, ls5, rfl, rfl, rfl, by rw [eg]; exact hwr, by rw [eg]; show ((gn.b : Nat) : Int) = (((s.reachL gn (s.obj id).refs).b : Nat) : Int); rw [(s.reachL_ab _ _).2], r5, ?_, dj5, ch5, ?_⟩
    · rw [eg]; exact ⟨w5.sep, w5.loc, w5.hd, w5.dn, w5.cp, w5.ln⟩
    · rw [eg]
      show gn.a + 1 + (s.reachL gn (s.obj id).refs).b = n + 1
      rw [(s.reachL_ab _ _).2]; omega
  · have hal : gn.a = gn.copied.length := by omega
    refine ⟨ls4, cl, ?_⟩
    by_cases hz : ((gn.b : Nat) : Int) < ((ls4.n : Nat) : Int)
    · rw [decide_eq_true hz]
      have hbl : gn.b < gn.line.length := by omega
      obtain ⟨id, hid⟩ : ∃ id, gn.line[gn.b]? = some id := ⟨_, List.getElem?_eq_getElem hbl⟩
      obtain ⟨b, _, ha, hc, cb⟩ := sl_at w4.ln w4.sep hid
      have hwr : IntKind.wrap .i64 (((gn.b : Nat) : Int) + 1) = ((gn.b + 1 : Nat) : Int) := by rw [wrap_ar (by omega) (by omega)]; rfl
      unfold f108K1
      refine Cond_t rfl ⟨cs4, cc, Cond_f (decide_eq_false hge4) ⟨ls4, cl, cb, PtrOk_of ha ⟨((id : Nat) : Int), by rw [Int.toNat_natCast]; exact hc, ?_⟩⟩⟩
      refine inner gn id _ _ _ _ k rfl rfl (k.here (.inr (List.mem_of_getElem? hid))) fun h5 W5 ds5 cs5 ls5 r5 w5 dj5 ch5 => ?_
      rw [RS.gcStep_big (by rw [hal]; exact List.getElem?_eq_none (Nat.le_refl _)) hid] at eg
      refine ⟨s.small.length + s.slots.length - (n + 1), by omega, n + 1, W5, ds5, cs5, ls5, rfl, rfl, rfl, by rw [eg]; show ((gn.a : Nat) : Int) = (((s.reachL gn (s.obj id).refs).a : Nat) : Int); rw [(s.reachL_ab _ _).1], by rw [eg]; exact hwr, r5, ?_, dj5, ch5, ?_⟩
      · rw [eg]; exact ⟨w5.sep, w5.loc, w5.hd, w5.dn, w5.cp, w5.ln⟩
      · rw [eg]
        show (s.reachL gn (s.obj id).refs).a + (gn.b + 1) = n + 1
        rw [(s.reachL_ab _ _).1]; omega
    · rw [decide_eq_false hz]
      have f : RS.Fin (s.gcAt n) := by rw [hgn]; exact ⟨hal, by omega⟩
      have ee := RS.gcEnd_eq v f (by rw [hgn]; omega)
      rw [hgn] at ee
      unfold f108K1
      obtain ⟨fw, kw⟩ := hWf _ _ ch4
      exact Cond_f rfl (hR h4 wb W4 ds4 cs4 ls4 r4 (by rw [ee]; exact w4) fw kw)
end
end Go.Ev
set_option linter.all false
set_option maxRecDepth 100000
namespace Go.Ev
open Go.Proofs
section
variable {h h' : Hp} {rb wb : Nat} {M W : Mem} {s t : RS} {gg : RGeo} {g : RS.Gc} {ds cs ls : Sl}
theorem rsize_raw (r : RT h rb M s gg) {id : Nat} (hid : id < s.objs.length) (q1 : (s.obj id).refs.length ≤ 1048576) (q2 : (s.obj id).raws.length ≤ 1048576) {R : Value → Hp → Prop} (hR : R (nv (s.size id)) h) : CallTo Try.prog 109 #[.pointer (some (ad rb)), nv id] h R := by
  refine f109F_ok ?_
  unfold f109F
  obtain ⟨b, go, hb, hg, ha, cb, c0, cj, i1, i2⟩ := r.obj hid
  have c6 : cell h ((ad rb).add 6) = some (.slice gg.os.a gg.os.n gg.os.c) := (r.c 6).trans rfl
  have l1 := i1.len
  have l2 := i2.len
  rw [List.length_map] at l1 l2
  refine PtrOk_mk ⟨gg.os, c6, cb, PtrOk_of ha ⟨go.rs, by rw [Int.toNat_natCast]; exact (cj 1 (by omega)).trans rfl, PtrOk_mk ⟨gg.os, c6, cb, PtrOk_of ha ⟨go.ws, by rw [Int.toNat_natCast]; exact (cj 2 (by omega)).trans rfl, ?_⟩⟩⟩⟩
  have e : IntKind.wrap .i64 ((IntKind.wrap .i64 ((1 : Int) + ((go.rs.n : Nat) : Int))) + ((go.ws.n : Nat) : Int)) = ((s.size id : Nat) : Int) := by
    have : s.size id = 1 + (s.obj id).refs.length + (s.obj id).raws.length := rfl
    rw [wrap_ar (x := (1 : Int) + ((go.rs.n : Nat) : Int)) (by omega) (by omega), wrap_ar (by omega) (by omega)]; omega
  rw [e]
  exact hR
/-- A part goes over from one memory to another. -/
theorem Sep.give (p : Sep h M) (w : Sep h W) (dj : ∀ b, M.own b → ¬ W.own b) (x y : Nat) : Sep h (M.upd x (W.loc y) (W.cont y)) := by
  refine ⟨fun z b hz => ?_, fun z u b hz hu => ?_⟩
  · by_cases e : z = x
    · subst e
      rw [Mem.loc_self] at hz
      rw [Mem.cont_self]
      exact w.row y b hz
    · rw [Mem.loc_ne _ _ _ e] at hz
      rw [Mem.cont_ne _ _ _ e]
      exact p.row z b hz
  · by_cases e : z = x <;> by_cases e2 : u = x
    · rw [e, e2]
    · subst e
      rw [Mem.loc_self] at hz
      rw [Mem.loc_ne _ _ _ e2] at hu
      exact absurd ⟨y, hz⟩ (dj b ⟨u, hu⟩)
    · subst e2
      rw [Mem.loc_self] at hu
      rw [Mem.loc_ne _ _ _ e] at hz
      exact absurd ⟨y, hu⟩ (dj b ⟨z, hz⟩)
    · rw [Mem.loc_ne _ _ _ e] at hz
      rw [Mem.loc_ne _ _ _ e2] at hu
      exact p.inj z u b hz hu
/-- The walk's list of the small ones becomes the heap's. -/
theorem RT.takeSm (r : RT h rb M s gg) (w : Sep h W) {y : Nat} {l : List Nat} (i : IsSl 1 W y cs (l.map nv)) (dj : ∀ b, M.own b → ¬ W.own b) {K : Hp → Prop}
    (hK : ∀ h' M', RT h' rb M' { s with small := l } { gg with ss := cs } → Kept M.own h h' → (∀ b, M'.own b → M.own b ∨ ∃ z, z = y ∧ W.loc z = some b) → K h') : stOk h ((ad rb).add 7) ∧ Let (setc h ((ad rb).add 7) (slV cs)) fun h' => K h' := by
  refine r.sep.st r.loc (add_ad _ _) (by rw [r.rep.hd]; show 7 < 13; omega) fun h1 sp ch => ?_
  have w1 : Sep h1 W := w.keep ch.1 fun b hb hm => dj b hm hb
  have dj1 : ∀ b, (M.upd 0 (some rb) ((M.cont 0).set 7 (slV cs))).own b → ¬ W.own b := fun b hb => by
    obtain ⟨z, hz⟩ := hb
    by_cases e : z = 0
    · subst e; rw [Mem.loc_self] at hz; obtain rfl := Option.some.inj hz; exact dj _ ⟨0, r.loc⟩
    · rw [Mem.loc_ne _ _ _ e] at hz; exact dj b ⟨z, hz⟩
  refine hK h1 _ ⟨sp.give w1 dj1 2 y, ?_, ⟨?_, r.rep.gl, (r.rep.ob.other (by omega)).other (by omega), ?_, (r.rep.sl.other (by omega)).other (by omega), (r.rep.rt.other (by omega)).other (by omega), fun j o go h1 h2 => ?_⟩⟩ ch.1 fun b hb => ?_
  · rw [Mem.loc_ne _ _ _ (by omega), Mem.loc_self]
  · rw [Mem.cont_ne _ _ _ (by omega), Mem.cont_self, r.rep.hd]; rfl
  · exact ⟨i.len, fun e => i.nil (by rwa [Mem.loc_self] at e), fun b e => by
      rw [Mem.loc_self] at e
      rw [Mem.cont_self]
      exact i.row b e⟩
  · obtain ⟨q1, q2⟩ := r.rep.rf j o go h1 h2
    exact ⟨(q1.other (by omega)).other (by omega), (q2.other (by omega)).other (by omega)⟩
  · obtain ⟨z, hz⟩ := hb
    by_cases e : z = 2
    · subst e; rw [Mem.loc_self] at hz; exact .inr ⟨y, rfl, hz⟩
    · rw [Mem.loc_ne _ _ _ e] at hz
      by_cases e0 : z = 0
      · subst e0; rw [Mem.loc_self] at hz; obtain rfl := Option.some.inj hz; exact .inl ⟨0, r.loc⟩
      · rw [Mem.loc_ne _ _ _ e0] at hz; exact .inl ⟨z, hz⟩
def nilG : RObjG := ⟨⟨none, 0, 0⟩, ⟨none, 0, 0⟩, false⟩
theorem zip_set (s : RS) (gs : List RObjG) {id : Nat} (hid : id < s.objs.length) (hg : id < gs.length) (o' : RObj) (go' : RObjG) : (s.objs.zip gs).set id (o', go') = (s.objs.set id o').zip (gs.set id go') := by
  apply List.ext_getElem?
  intro i
  by_cases hi : i = id
  · subst hi
    rw [List.getElem?_set_self (by rw [List.length_zip]; omega)]
    symm
    rw [List.getElem?_zip_eq_some]
    exact ⟨List.getElem?_set_self hid, List.getElem?_set_self hg⟩
  · rw [List.getElem?_set_ne (Ne.symm hi)]
    simp only [List.zip, List.getElem?_zipWith]
    rw [List.getElem?_set_ne (Ne.symm hi), List.getElem?_set_ne (Ne.symm hi)]
/-- h.Objs[i] = Obj{} -/
theorem RT.zeroObj (r : RT h rb M s gg) {id : Nat} (hid : id < s.objs.length) : ∃ ob, gg.os.a = some (ad ob) ∧ ∀ K : Hp → Prop, (∀ h' M', RT h' rb M' (s.setObj id RObj.no) { gg with gs := gg.gs.set id nilG } → Chg h M h' M' → K h') →
    stOk h ((ad ob).add (id * 6)) ∧ Let (setc h ((ad ob).add (id * 6)) (.int .i64 0)) fun h11 => stOk h11 (((ad ob).add (id * 6)).add 1) ∧ Let (setc h11 (((ad ob).add (id * 6)).add 1) (.slice none 0 0)) fun h12 => stOk h12 (((ad ob).add (id * 6)).add 2) ∧ Let (setc h12 (((ad ob).add (id * 6)).add 2) (.slice none 0 0)) fun h13 => stOk h13 (((ad ob).add (id * 6)).add 3) ∧ Let (setc h13 (((ad ob).add (id * 6)).add 3) (.bool false)) fun h14 => stOk h14 (((ad ob).add (id * 6)).add 4) ∧ Let (setc h14 (((ad ob).add (id * 6)).add 4) (.bool false)) fun h15 => stOk h15 (((ad ob).add (id * 6)).add 5) ∧ Let (setc h15 (((ad ob).add (id * 6)).add 5) (.int .i64 0)) fun h16 => K h16 := by
  obtain ⟨ob, go, hob, hg, hoa, _, _, _, _, _⟩ := r.obj hid
  refine ⟨ob, hoa, fun K hK => ?_⟩
  have hgl := (List.getElem?_eq_some_iff.1 hg).1
  have hz : (s.objs.zip gg.gs)[id]? = some (s.obj id, go) := by rw [List.getElem?_zip_eq_some]; exact ⟨s.obj_get hid, hg⟩
  have hzl : id < (s.objs.zip gg.gs).length := (List.getElem?_eq_some_iff.1 hz).1
  generalize ho : s.obj id = o at hz
  generalize hl : s.objs.zip gg.gs = l at hz hzl
  have i0 : IsSl 6 M 1 gg.os (l.flatMap ocells) := hl ▸ r.rep.ob
  have step : ∀ {h : Hp} {M : Mem} {l : List (RObj × RObjG)} {p p' : RObj × RObjG} {j : Nat} {v : Value} {a : Addr} {K : Hp → Prop}, Sep h M → M.loc 1 = some ob → IsSl 6 M 1 gg.os (l.flatMap ocells) → l[id]? = some p → j < 6 → ocells p' = (ocells p).set j v → a = ⟨ob, id * 6 + j, none⟩ →
      (∀ h', Sep h' (M.upd 1 (some ob) ((M.cont 1).set (id * 6 + j) v)) → IsSl 6 (M.upd 1 (some ob) ((M.cont 1).set (id * 6 + j) v)) 1 gg.os ((l.set id p').flatMap ocells) → Chg h M h' (M.upd 1 (some ob) ((M.cont 1).set (id * 6 + j) v)) → K h') →
      stOk h a ∧ Let (setc h a v) fun h' => K h' := by
    intro h M l p p' j v a K sp lo i hp hj hc ha hk
    have hpl := (List.getElem?_eq_some_iff.1 hp).1
    have hmul : (l.flatMap ocells).length = l.length * 6 := flat_len ocells_len l
    obtain ⟨q1, q2⟩ := i.set lo v (o := id * 6 + j) (by rw [hmul]; omega)
    rw [flat_set ocells_len _ id j _ p' v hp hj hc] at q2
    exact sp.st lo ha q1 fun h' sp' ch => hk h' sp' q2 ch
  refine step (j := 0) (p' := ({ o with kind := 0 }, go)) r.sep hob i0 hz (by omega) rfl (add_ad _ _) fun h1 sp1 i1 ch1 => ?_
  refine step (j := 1) (p' := ({ o with kind := 0 }, { go with rs := ⟨none, 0, 0⟩ })) sp1 (Mem.loc_self ..) i1 (List.getElem?_set_self (by simpa using hzl)) (by omega) rfl (by rw [add_ad, add_mk]) fun h2 sp2 i2 ch2 => ?_
  refine step (j := 2) (p' := ({ o with kind := 0 }, { go with rs := ⟨none, 0, 0⟩, ws := ⟨none, 0, 0⟩ })) sp2 (Mem.loc_self ..) i2 (List.getElem?_set_self (by simpa using hzl)) (by omega) rfl (by rw [add_ad, add_mk]) fun h3 sp3 i3 ch3 => ?_
  refine step (j := 3) (p' := ({ o with kind := 0 }, nilG)) sp3 (Mem.loc_self ..) i3 (List.getElem?_set_self (by simpa using hzl)) (by omega) rfl (by rw [add_ad, add_mk]) fun h4 sp4 i4 ch4 => ?_
  refine step (j := 4) (p' := ({ o with kind := 0, big := false }, nilG)) sp4 (Mem.loc_self ..) i4 (List.getElem?_set_self (by simpa using hzl)) (by omega) rfl (by rw [add_ad, add_mk]) fun h5 sp5 i5 ch5 => ?_
  refine step (j := 5) (p' := (RObj.no, nilG)) sp5 (Mem.loc_self ..) i5 (List.getElem?_set_self (by simpa using hzl)) (by omega) rfl (by rw [add_ad, add_mk]) fun h6 sp6 i6 ch6 => ?_
  have ch := ((((ch1.trans ch2).trans ch3).trans ch4).trans ch5).trans ch6
  rw [List.set_set, List.set_set, List.set_set, List.set_set, List.set_set, ← hl, zip_set s gg.gs hid hgl] at i6
  generalize hM6 : Mem.upd (Mem.upd (Mem.upd (Mem.upd (Mem.upd (Mem.upd M 1 _ _) 1 _ _) 1 _ _) 1 _ _) 1 _ _) 1 _ _ = M6 at sp6 i6 ch
  have ne1 : ∀ x, x ≠ 1 → M6.loc x = M.loc x ∧ M6.cont x = M.cont x := fun x hx => by
    rw [← hM6]
    simp only [Mem.loc_ne _ _ _ hx, Mem.cont_ne _ _ _ hx, and_self]
  have oth : ∀ {sz x : Nat} {sl : Sl} {vs : List Value}, x ≠ 1 → IsSl sz M x sl vs → IsSl sz M6 x sl vs := fun {sz x sl vs} hx i => by
    obtain ⟨e1, e2⟩ := ne1 x hx
    exact ⟨i.len, fun e => i.nil (by rw [← e1]; exact e), fun b e => by rw [e2]; exact i.row b (by rw [← e1]; exact e)⟩
  obtain ⟨sp7, ch7⟩ := sp6.drop (5 + 2 * id) []
  obtain ⟨sp8, ch8⟩ := sp7.drop (6 + 2 * id) []
  refine hK h6 _ ⟨sp8, ?_, ⟨?_, ?_, ?_, ?_, ?_, ?_, fun j o' go' h1 h2 => ?_⟩⟩ ((ch.trans ch7).trans ch8)
  · rw [Mem.loc_ne _ _ _ (by omega), Mem.loc_ne _ _ _ (by omega), (ne1 0 (by omega)).1]; exact r.loc
  · rw [Mem.cont_ne _ _ _ (by omega), Mem.cont_ne _ _ _ (by omega), (ne1 0 (by omega)).2]; exact r.rep.hd
  · show (gg.gs.set id nilG).length = (s.objs.set id RObj.no).length
    rw [List.length_set, List.length_set]; exact r.rep.gl
  · exact (i6.other (by omega)).other (by omega)
  · exact ((oth (by omega) r.rep.sm).other (by omega)).other (by omega)
  · exact ((oth (by omega) r.rep.sl).other (by omega)).other (by omega)
  · exact ((oth (by omega) r.rep.rt).other (by omega)).other (by omega)
  · have h1 : (s.objs.set id RObj.no)[j]? = some o' := h1
    have h2 : (gg.gs.set id nilG)[j]? = some go' := h2
    by_cases hj : j = id
    · subst hj
      rw [List.getElem?_set_self hid] at h1
      rw [List.getElem?_set_self hgl] at h2
      obtain rfl := Option.some.inj h1
      obtain rfl := Option.some.inj h2
      exact ⟨(IsSl.nilSl _ _ _ _).other (by omega), IsSl.nilSl _ _ _ _⟩
    · rw [List.getElem?_set_ne (Ne.symm hj)] at h1 h2
      obtain ⟨q1, q2⟩ := r.rep.rf j o' go' h1 h2
      exact ⟨((oth (by omega) q1).other (by omega)).other (by omega), ((oth (by omega) q2).other (by omega)).other (by omega)⟩
end
end Go.Ev
set_option linter.all false
set_option maxRecDepth 100000
namespace Go.Ev
open Go.Proofs
namespace RS
section
variable {s : RS}
def doneP (s : RS) (id : Nat) : Prop := id ∈ s.gcEnd.copied ∨ id ∈ s.gcEnd.line
instance (s : RS) (id : Nat) : Decidable (s.doneP id) := inferInstanceAs (Decidable (_ ∨ _))
def moveO (s : RS) (i : Nat) (id : Nat) (o : RObj) : RObj := if id ∈ s.gcEnd.copied.take i then { o with pl := s.placeIn s.gcEnd.copied 1 id } else o
def objsA (s : RS) (i : Nat) : List RObj := s.objs.mapIdx (s.moveO i)
def objsB (s : RS) (i : Nat) : List RObj := s.objs.mapIdx fun id o => if id < i ∧ id ≠ 0 ∧ ¬ s.doneP id then RObj.no else s.moveO s.gcEnd.copied.length id o
def slotsC (s : RS) (i : Nat) : List Nat := (s.slots.take i).map (fun id => if id ∈ s.gcEnd.line then id else 0) ++ s.slots.drop i
theorem objsA_zero : s.objsA 0 = s.objs := by
  apply List.ext_getElem?
  intro j
  unfold objsA moveO
  rw [List.getElem?_mapIdx]
  cases s.objs[j]? <;> simp
theorem objsA_get {i id : Nat} (h : id < s.objs.length) : (s.objsA i)[id]? = some (s.moveO i id (s.obj id)) := by
  unfold objsA
  rw [List.getElem?_mapIdx, s.obj_get h]; rfl
theorem objsA_succ (v : s.Inv) {i x : Nat} (h : s.gcEnd.copied[i]? = some x) : s.objsA (i + 1) = (s.objsA i).set x { s.obj x with pl := s.placeIn s.gcEnd.copied 1 x } := by
  have k := GcOk.fin v
  have hx := v.here_lt (k.here (.inl (List.mem_of_getElem? h)))
  apply List.ext_getElem?
  intro j
  by_cases hj : j = x
  · subst hj
    rw [List.getElem?_set_self (by unfold objsA; rw [List.length_mapIdx]; exact hx), objsA_get hx]
    unfold moveO
    rw [take_snoc h, if_pos (List.mem_append_right _ (List.mem_singleton.2 rfl))]
  · rw [List.getElem?_set_ne (Ne.symm hj)]
    unfold objsA
    rw [List.getElem?_mapIdx, List.getElem?_mapIdx]
    congr 1
    funext o
    unfold moveO
    rw [take_snoc h]
    simp only [List.mem_append, List.mem_singleton, hj, or_false]
theorem objsB_one : s.objsB 1 = s.objsA s.gcEnd.copied.length := by
  unfold objsB objsA
  congr 1
  funext id o
  rw [if_neg (by omega)]
theorem objsB_get {i id : Nat} (h : id < s.objs.length) (hi : i ≤ id) : (s.objsB i)[id]? = some (s.moveO s.gcEnd.copied.length id (s.obj id)) := by
  unfold objsB
  rw [List.getElem?_mapIdx, s.obj_get h]
  show some (if _ then _ else _) = _
  rw [if_neg (by omega)]
theorem objsB_len (i : Nat) : (s.objsB i).length = s.objs.length := by unfold objsB; rw [List.length_mapIdx]
theorem objsA_len (i : Nat) : (s.objsA i).length = s.objs.length := by unfold objsA; rw [List.length_mapIdx]
theorem objsB_done {i : Nat} (h : s.doneP i) : s.objsB (i + 1) = s.objsB i := by
  unfold objsB
  congr 1
  funext id o
  by_cases hi : id = i
  · subst hi; rw [if_neg (fun c => c.2.2 h), if_neg (fun c => c.2.2 h)]
  · have : (id < i + 1 ∧ id ≠ 0 ∧ ¬ s.doneP id) ↔ (id < i ∧ id ≠ 0 ∧ ¬ s.doneP id) := by
      constructor
      · rintro ⟨a, b, c⟩; exact ⟨by omega, b, c⟩
      · rintro ⟨a, b, c⟩; exact ⟨by omega, b, c⟩
    by_cases hc : id < i ∧ id ≠ 0 ∧ ¬ s.doneP id
    · rw [if_pos hc, if_pos (this.2 hc)]
    · rw [if_neg hc, if_neg (fun c => hc (this.1 c))]
theorem objsB_not {i : Nat} (h0 : i ≠ 0) (hl : i < s.objs.length) (h : ¬ s.doneP i) : s.objsB (i + 1) = (s.objsB i).set i RObj.no := by
  apply List.ext_getElem?
  intro j
  by_cases hj : j = i
  · subst hj
    rw [List.getElem?_set_self (by rw [objsB_len]; exact hl)]
    unfold objsB
    rw [List.getElem?_mapIdx, s.obj_get hl]
    show some (if _ then _ else _) = _
    rw [if_pos ⟨by omega, h0, h⟩]
  · rw [List.getElem?_set_ne (Ne.symm hj)]
    unfold objsB
    rw [List.getElem?_mapIdx, List.getElem?_mapIdx]
    congr 1
    funext o
    have : (j < i + 1 ∧ j ≠ 0 ∧ ¬ s.doneP j) ↔ (j < i ∧ j ≠ 0 ∧ ¬ s.doneP j) := by
      constructor
      · rintro ⟨a, b, c⟩; exact ⟨by omega, b, c⟩
      · rintro ⟨a, b, c⟩; exact ⟨by omega, b, c⟩
    by_cases hc : j < i ∧ j ≠ 0 ∧ ¬ s.doneP j
    · rw [if_pos hc, if_pos (this.2 hc)]
    · rw [if_neg hc, if_neg (fun c => hc (this.1 c))]
theorem objsB_end {n : Nat} (hn : s.objs.length ≤ n) : s.objsB n = s.collection.objs := by
  rw [collection_objs]
  unfold objsB
  apply List.ext_getElem?
  intro j
  rw [List.getElem?_mapIdx, List.getElem?_mapIdx]
  cases hj : s.objs[j]? with
  | none => rfl
  | some o =>
    have hjl := (List.getElem?_eq_some_iff.1 hj).1
    show some (if _ then _ else _) = some (if _ then _ else _)
    congr 1
    unfold moveO
    rw [List.take_length]
    by_cases h1 : j ∈ s.gcEnd.copied
    · rw [if_neg (fun c => c.2.2 (.inl h1)), if_pos h1, if_pos h1]
    · rw [if_neg h1, if_neg h1]
      by_cases h2 : j ∈ s.gcEnd.line
      · rw [if_neg (fun c => c.2.2 (.inr h2)), if_pos h2]
      · rw [if_neg h2]
        by_cases h0 : j = 0
        · rw [if_neg (fun c => c.2.1 h0), if_pos h0]
        · rw [if_pos ⟨by omega, h0, fun c => c.elim h1 h2⟩, if_neg h0]
theorem slotsC_len (i : Nat) : (s.slotsC i).length = s.slots.length := by unfold slotsC; simp; omega
theorem slotsC_get {i x : Nat} (h : s.slots[i]? = some x) : (s.slotsC i)[i]? = some x := by
  have hi := (List.getElem?_eq_some_iff.1 h).1
  unfold slotsC
  rw [List.getElem?_append_right (by simp; omega), List.getElem?_drop]
  have : i + (i - ((s.slots.take i).map (fun id => if id ∈ s.gcEnd.line then id else 0)).length) = i := by simp; omega
  rw [this, h]
theorem slotsC_succ {i x : Nat} (h : s.slots[i]? = some x) : s.slotsC (i + 1) = (s.slotsC i).set i (if x ∈ s.gcEnd.line then x else 0) := by
  obtain ⟨hi, he⟩ := List.getElem?_eq_some_iff.1 h
  unfold slotsC
  rw [List.drop_eq_getElem_cons hi, he, take_snoc h, List.map_append, List.set_append_right _ _ (by simp; omega)]
  have : i - ((s.slots.take i).map (fun id => if id ∈ s.gcEnd.line then id else 0)).length = 0 := by simp; omega
  rw [this]
  simp
end
end RS
section
variable {h h' : Hp} {rb wb : Nat} {M W : Mem} {s : RS} {gg : RGeo} {g : RS.Gc} {ds cs ls : Sl}
/-- What is left of the walk: which objects were reached. -/
structure WD (h : Hp) (wb : Nat) (W : Mem) (s : RS) (ds : Sl) : Prop where
  sep : Sep h W
  loc : W.loc 0 = some wb
  hd : (W.cont 0)[0]? = some (slV ds)
  dn : IsSl 1 W 1 ds (doneV s s.gcEnd)
theorem WD.at (w : WD h wb W s ds) {id : Nat} (hid : id < s.objs.length) : ∃ b, cell h (ad wb) = some (.slice ds.a ds.n ds.c) ∧ ds.a = some (ad b) ∧ cell h ((ad b).add (id * 1)) = some (.bool (decide (s.doneP id))) ∧ ((0 : Int) ≤ (id : Int) ∧ (id : Int) < ((ds.n : Nat) : Int)) := by
  obtain ⟨b, hb, ha, hc⟩ := w.dn.at w.sep (doneV_at hid)
  have hdn := w.dn.len
  rw [doneV_len] at hdn
  exact ⟨b, by rw [w.sep.cell0 w.loc]; exact w.hd, ha, by rw [add_ad, Nat.mul_one]; exact hc, by omega, by omega⟩
theorem WD.keep (w : WD h wb W s ds) {S : Nat → Prop} (k : Kept S h h') (hS : ∀ b, W.own b → ¬ S b) : WD h' wb W s ds := ⟨w.sep.keep k hS, w.loc, w.hd, w.dn⟩
theorem rcollection_ok (r : RT h rb M s gg) (v : s.Inv) (hol : s.objs.length ≤ 100000000) {R : Value → Hp → Prop} (hR : ∀ h' M' g', RT h' rb M' s.collection g' → Chg h M h' M' → R (.tuple #[]) h') : CallTo Try.prog 89 #[.pointer (some (ad rb))] h R := by
  have i5 := v.sll; have i2 := v.u1; have i3 := v.u2; have i4 := v.h2; have i6 := v.l2
  have hlg := RS.collection_large v
  have kf := RS.GcOk.fin v
  have hnd : s.gcEnd.copied.Nodup := (List.nodup_append.1 kf.nd).1
  have hcs := RS.sizes_le (s := s) s.gcEnd.copied s.small hnd kf.cp
  have hcl := kf.len2
  have hsl := s.small_len
  refine f89F_ok ?_
  unfold f89F
  refine reached_ok r v hol fun h1 wb W ds cs ls r1 w1 hW k1 => ⟨_, rfl, PtrOk_mk ?_⟩
  have ch1 : Chg h M h1 M := Chg.of_kept k1
  have hlt : ∀ b, M.own b → b < h.size := fun b hb => r.sep.own_lt hb
  have dj1 : ∀ b, W.own b → ¬ M.own b := fun b hw hm => by have := hW b hw; have := hlt b hm; omega
  refine r1.num (i := 2) (s' := { s with used := 1 }) (add_ad _ _) (by omega) rfl rfl rfl rfl rfl fun h2 M2 r2 c2 => ?_
  have ch2 := ch1.trans c2
  have w2 := w1.keep c2.1 dj1
  /- objects are placed -/
  have c2' : Chg h1 M h2 M2 := c2
  have djo : ∀ {h' : Hp} {M' : Mem}, Chg h1 M h' M' → ∀ b, M'.own b → ¬ W.own b := fun {h' M'} ch b hm hw => by
    rcases ch.2 b hm with h | h
    · exact dj1 b hw h
    · have := w1.sep.own_lt hw; omega
  refine f89L1_rule (fun q s0 s2 s3 h' => ∃ (i : Nat) (M' : Mem) (g' : RGeo), i ≤ s.gcEnd.copied.length ∧ q = s.gcEnd.copied.length - i ∧ s0 = some (ad rb) ∧ s2 = some (ad wb) ∧ s3 = (i : Int) ∧
    RT h' rb M' { s with used := 1 + s.sizes (s.gcEnd.copied.take i), objs := s.objsA i } g' ∧ Chg h1 M h' M') s.gcEnd.copied.length
    ⟨0, M2, gg, Nat.zero_le _, rfl, rfl, rfl, rfl, by rw [RS.objsA_zero]; exact r2, c2'⟩ ?_
  rintro q s0 s2 s3 g0 h3 ⟨i, M3, g3, hi, rfl, rfl, rfl, rfl, r3, c3⟩
  have w3 := w1.keep c3.1 dj1
  have hcn := w3.cp.len
  rw [List.length_map] at hcn
  have cw1 : cell h3 ((ad wb).add 1) = some (.slice cs.a cs.n cs.c) := (w3.c 1).trans rfl
  unfold f89L1
  refine PtrOk_mk ⟨cs, cw1, Cond_dec (fun hlt3 => ?_) fun hge3 => ?_⟩
  · have hil : i < s.gcEnd.copied.length := by omega
    obtain ⟨x, hx⟩ : ∃ x, s.gcEnd.copied[i]? = some x := ⟨_, List.getElem?_eq_getElem hil⟩
    have hxm := List.mem_of_getElem? hx
    have hxh : s.here x := kf.here (.inl hxm)
    have hxl := v.here_lt hxh
    obtain ⟨_, _, hq1, hq2, _⟩ := v.shp x hxh
    obtain ⟨bc, _, hac, hcc, cbc⟩ := sl_at w3.cp w3.sep hx
    have hxl3 : x < ({ s with used := 1 + s.sizes (s.gcEnd.copied.take i), objs := s.objsA i } : RS).objs.length := by show x < (s.objsA i).length; rw [RS.objsA_len]; exact hxl
    obtain ⟨ob, go, hob, hg, hoa, ocb, _, _, _, _⟩ := r3.obj hxl3
    have c6 : cell h3 ((ad rb).add 6) = some (.slice g3.os.a g3.os.n g3.os.c) := (r3.c 6).trans rfl
    have hnt : x ∉ s.gcEnd.copied.take i := fun hm => by
      obtain ⟨j, hj⟩ := List.mem_iff_getElem?.1 hm
      rw [List.getElem?_take] at hj
      split at hj
      · have := (List.getElem?_inj (List.getElem?_eq_some_iff.1 hj).1 hnd).1 (hj.trans hx.symm)
        omega
      · cases hj
    have eob : ({ s with used := 1 + s.sizes (s.gcEnd.copied.take i), objs := s.objsA i } : RS).obj x = s.obj x := by
      have h1 := RS.obj_get { s with used := 1 + s.sizes (s.gcEnd.copied.take i), objs := s.objsA i } hxl3
      have h2 := RS.objsA_get (s := s) (i := i) hxl
      have h3 := h1.symm.trans h2
      rw [Option.some.inj h3]
      unfold RS.moveO
      rw [if_neg hnt]
    have hpl : s.placeIn s.gcEnd.copied 1 x = 1 + s.sizes (s.gcEnd.copied.take i) := RS.placeIn_at _ _ _ _ hnd hx
    have hle := s.sizes_take s.gcEnd.copied i
    have hle1 := s.sizes_take s.gcEnd.copied (i + 1)
    have hsn : s.sizes (s.gcEnd.copied.take (i + 1)) = s.sizes (s.gcEnd.copied.take i) + s.size x := by rw [RS.take_snoc hx, RS.sizes_snoc]
    refine PtrOk_mk ⟨g3.os, c6, PtrOk_mk ⟨cs, cw1, cbc, PtrOk_of hac ⟨((x : Nat) : Int), by rw [Int.toNat_natCast]; exact hcc, PtrOk_mk ⟨((1 + s.sizes (s.gcEnd.copied.take i) : Nat) : Int), (r3.c 2).trans rfl, ocb, PtrOk_of hoa ?_⟩⟩⟩⟩
    refine r3.setCell (j := 5) (o' := { s.obj x with pl := 1 + s.sizes (s.gcEnd.copied.take i) }) (go' := go) hxl3 (by omega) hg (by rw [eob]; rfl) (by rw [eob]) (by rw [eob]) rfl rfl hob (by rw [Int.toNat_natCast, add_ad, add_mk]) fun h4 M4 r4 c4 => PtrOk_mk ?_
    rw [RS.set_same hg] at r4
    have eA : RS.setObj { s with used := 1 + s.sizes (s.gcEnd.copied.take i), objs := s.objsA i } x { s.obj x with pl := 1 + s.sizes (s.gcEnd.copied.take i) } = { s with used := 1 + s.sizes (s.gcEnd.copied.take i), objs := s.objsA (i + 1) } := by
      rw [RS.objsA_succ v hx, hpl]
      rfl
    rw [eA] at r4
    have c34 := c3.trans c4
    have w4 := w1.keep c34.1 dj1
    obtain ⟨bc4, _, hac4, hcc4, cbc4⟩ := sl_at w4.cp w4.sep hx
    have cw14 : cell h4 ((ad wb).add 1) = some (.slice cs.a cs.n cs.c) := (w4.c 1).trans rfl
    have hxl4 : x < ({ s with used := 1 + s.sizes (s.gcEnd.copied.take i), objs := s.objsA (i + 1) } : RS).objs.length := by show x < (s.objsA (i + 1)).length; rw [RS.objsA_len]; exact hxl
    have eob4 : ({ s with used := 1 + s.sizes (s.gcEnd.copied.take i), objs := s.objsA (i + 1) } : RS).obj x = { s.obj x with pl := s.placeIn s.gcEnd.copied 1 x } := by
      have h1 := RS.obj_get { s with used := 1 + s.sizes (s.gcEnd.copied.take i), objs := s.objsA (i + 1) } hxl4
      have h2 := RS.objsA_get (s := s) (i := i + 1) hxl
      rw [Option.some.inj (h1.symm.trans h2)]
      unfold RS.moveO
      rw [RS.take_snoc hx, if_pos (List.mem_append_right _ (List.mem_singleton.2 rfl))]
    have esz : ({ s with used := 1 + s.sizes (s.gcEnd.copied.take i), objs := s.objsA (i + 1) } : RS).size x = s.size x := by unfold RS.size; rw [eob4]; rfl
    refine ⟨((1 + s.sizes (s.gcEnd.copied.take i) : Nat) : Int), (r4.c 2).trans rfl, PtrOk_mk ⟨cs, cw14, cbc4, PtrOk_of hac4 ⟨((x : Nat) : Int), by rw [Int.toNat_natCast]; exact hcc4, _, rsize_raw r4 hxl4 (by rw [eob4]; exact hq1) (by rw [eob4]; exact hq2) ⟨rfl, rfl⟩, PtrOk_mk ?_⟩⟩⟩
    rw [esz]
    have ev : IntKind.wrap .i64 (((1 + s.sizes (s.gcEnd.copied.take i) : Nat) : Int) + ((s.size x : Nat) : Int)) = ((1 + s.sizes (s.gcEnd.copied.take (i + 1)) : Nat) : Int) := by rw [wrap_ar (by omega) (by omega)]; omega
    rw [ev]
    refine r4.num (i := 2) (s' := { s with used := 1 + s.sizes (s.gcEnd.copied.take (i + 1)), objs := s.objsA (i + 1) }) (add_ad _ _) (by omega) rfl rfl rfl rfl rfl fun h5 M5 r5 c5 => ?_
    exact ⟨s.gcEnd.copied.length - (i + 1), by omega, i + 1, M5, _, hil, rfl, rfl, rfl, by rw [wrap_ar (by omega) (by omega)]; rfl, r5, c34.trans c5⟩
  have : i = s.gcEnd.copied.length := by omega
  subst this
  rw [List.take_length] at r3
  /- the list of the small ones, the slots -/
  refine PtrOk_mk ⟨cs, cw1, PtrOk_mk ?_⟩
  refine r3.takeSm w3.sep w3.cp (djo c3) fun h4 M4 r4 k4 o4 => PtrOk_mk ?_
  have w4d : WD h4 wb (W.upd 2 none []) s ds := by
    have w4 := w3.keep k4 fun b hw hm => djo c3 b hm hw
    refine ⟨(w4.sep.drop 2 []).1, ?_, ?_, w4.dn.other (by omega)⟩
    · rw [Mem.loc_ne _ _ _ (by omega)]; exact w4.loc
    · rw [Mem.cont_ne _ _ _ (by omega), w4.hd]; rfl
  have hW2 : ∀ b, (W.upd 2 none []).own b → ∃ x, x ≠ 2 ∧ W.loc x = some b := fun b hb => by
    obtain ⟨x, hx⟩ := hb
    by_cases e : x = 2
    · subst e; rw [Mem.loc_self] at hx; cases hx
    · rw [Mem.loc_ne _ _ _ e] at hx; exact ⟨x, e, hx⟩
  have dj4 : ∀ b, (W.upd 2 none []).own b → ¬ M4.own b := fun b hb hm => by
    obtain ⟨x, hx2, hx⟩ := hW2 b hb
    rcases o4 b hm with h | ⟨z, rfl, hz⟩
    · exact djo c3 b h ⟨x, hx⟩
    · exact hx2 (w1.sep.inj x 2 b hx hz)
  have ch4 : Chg h M h4 M4 := by
    have c13 := ch1.trans c3
    refine ⟨⟨Nat.le_trans c13.1.1 k4.1, fun b hb hn => ?_⟩, fun b hb => ?_⟩
    · rw [k4.2 b (Nat.lt_of_lt_of_le hb c13.1.1) fun hm => (c13.2 b hm).elim hn fun h => by omega]
      exact c13.1.2 b hb hn
    · rcases o4 b hb with h | ⟨z, rfl, hz⟩
      · exact c13.2 b h
      · exact .inr (hW b ⟨2, hz⟩)
  refine r4.num (i := 3) (s' := { s with used := 1 + s.sizes s.gcEnd.copied, objs := s.objsA s.gcEnd.copied.length, small := s.gcEnd.copied, large := s.largeAt 0, slots := s.slotsC 0 }) (add_ad _ _) (by omega) rfl rfl rfl (by show s.slotsC 0 = s.slots; unfold RS.slotsC; simp) rfl fun h5 M5 r5 c5 => ?_
  have keepW : ∀ {h' : Hp} {M' : Mem}, Chg h4 M4 h' M' → WD h' wb (W.upd 2 none []) s ds := fun ch => w4d.keep ch.1 dj4
  refine f89L2_rule (fun q s0 s2 s4 h' => ∃ (i : Nat) (M' : Mem) (g' : RGeo), i ≤ s.slots.length ∧ q = s.slots.length - i ∧ s0 = some (ad rb) ∧ s2 = some (ad wb) ∧ s4 = (i : Int) ∧
    RT h' rb M' { s with used := 1 + s.sizes s.gcEnd.copied, objs := s.objsA s.gcEnd.copied.length, small := s.gcEnd.copied, large := s.largeAt i, slots := s.slotsC i } g' ∧ Chg h4 M4 h' M') s.slots.length
    ⟨0, M5, _, Nat.zero_le _, rfl, rfl, rfl, rfl, r5, c5⟩ ?_
  rintro q s0 s2 s4 g0 h6 ⟨i, M6, g6, hi, rfl, rfl, rfl, rfl, r6, c6⟩
  have w6 := keepW c6
  have hls := r6.ls_n
  have hls : g6.ls.n = (s.slotsC i).length := hls
  rw [RS.slotsC_len] at hls
  have c8 : cell h6 ((ad rb).add 8) = some (.slice g6.ls.a g6.ls.n g6.ls.c) := (r6.c 8).trans rfl
  unfold f89L2
  refine PtrOk_mk ⟨g6.ls, c8, Cond_dec (fun hlt6 => ?_) fun hge6 => ?_⟩
  · have hil : i < s.slots.length := by omega
    obtain ⟨x, hx⟩ : ∃ x, s.slots[i]? = some x := ⟨_, List.getElem?_eq_getElem hil⟩
    obtain ⟨bs, _, has, hcs', cbs⟩ := sl_at r6.rep.sl r6.sep (RS.slotsC_get hx)
    have hwr : IntKind.wrap .i64 ((i : Int) + 1) = ((i + 1 : Nat) : Int) := by rw [wrap_ar (by omega) (by omega)]; rfl
    have hsum := RS.largeAt_succ hx
    have hla := s.largeAt_le (i + 1)
    /- the slot becomes free -/
    have fin0 : x ∉ s.gcEnd.line → f89K1 (fun q s0 s2 s4 h' => ∃ (i : Nat) (M' : Mem) (g' : RGeo), i ≤ s.slots.length ∧ q = s.slots.length - i ∧ s0 = some (ad rb) ∧ s2 = some (ad wb) ∧ s4 = (i : Int) ∧
        RT h' rb M' { s with used := 1 + s.sizes s.gcEnd.copied, objs := s.objsA s.gcEnd.copied.length, small := s.gcEnd.copied, large := s.largeAt i, slots := s.slotsC i } g' ∧ Chg h4 M4 h' M') (s.slots.length - i) (some (ad rb)) (some (ad wb)) (i : Int) (x : Int) false h6 R := fun hxl => by
      unfold f89K1
      obtain ⟨b2, hb2, st⟩ := r6.setSlot (k := i) (by show i < (s.slotsC i).length; rw [RS.slotsC_len]; exact hil) 0
      refine Cond_f rfl (PtrOk_mk ⟨g6.ls, c8, cbs, PtrOk_of hb2 ?_⟩)
      rw [Int.toNat_natCast]
      refine st _ fun h7 M7 r7 c7 => ?_
      unfold f89K2
      have e1 : s.slotsC (i + 1) = (s.slotsC i).set i 0 := by rw [RS.slotsC_succ hx, if_neg hxl]
      have e2 : s.largeAt (i + 1) = s.largeAt i := by rw [hsum]; unfold RS.lw; rw [if_neg hxl]; rfl
      exact ⟨s.slots.length - (i + 1), by omega, i + 1, M7, g6, hil, rfl, rfl, rfl, hwr, by rw [e1, e2]; exact r7, c6.trans c7⟩
    refine PtrOk_mk ⟨g6.ls, c8, cbs, PtrOk_of has ⟨((x : Nat) : Int), by rw [Int.toNat_natCast]; exact hcs', ?_⟩⟩
    refine Cond_dec (fun hx0 => ?_) fun hx0 => ?_
    · have hx0 : x ≠ 0 := by omega
      have hxh : s.here x := .inr ⟨hx0, List.mem_of_getElem? hx⟩
      have hxl := v.here_lt hxh
      obtain ⟨_, _, hq1, hq2, _⟩ := v.shp x hxh
      obtain ⟨bd, e1, e2, e3, e4⟩ := w6.at hxl
      refine PtrOk_mk ⟨ds, e1, e4, PtrOk_of e2 ⟨_, by rw [Int.toNat_natCast]; exact e3, ?_⟩⟩
      have hnc : x ∉ s.gcEnd.copied := fun hm => by
        have h1 := (v.sm x (kf.cp x hm)).2.2.1
        have h2 := (v.sl i x hx hx0).2.1
        rw [h1] at h2; cases h2
      by_cases hxn : x ∈ s.gcEnd.line
      · rw [decide_eq_true (show s.doneP x from .inr hxn)]
        unfold f89K1
        have hxl6 : x < ({ s with used := 1 + s.sizes s.gcEnd.copied, objs := s.objsA s.gcEnd.copied.length, small := s.gcEnd.copied, large := s.largeAt i, slots := s.slotsC i } : RS).objs.length := by show x < (s.objsA _).length; rw [RS.objsA_len]; exact hxl
        have eob6 : ({ s with used := 1 + s.sizes s.gcEnd.copied, objs := s.objsA s.gcEnd.copied.length, small := s.gcEnd.copied, large := s.largeAt i, slots := s.slotsC i } : RS).obj x = s.obj x := by
          have h1 := RS.obj_get { s with used := 1 + s.sizes s.gcEnd.copied, objs := s.objsA s.gcEnd.copied.length, small := s.gcEnd.copied, large := s.largeAt i, slots := s.slotsC i } hxl6
          have h2 := RS.objsA_get (s := s) (i := s.gcEnd.copied.length) hxl
          rw [Option.some.inj (h1.symm.trans h2)]
          unfold RS.moveO
          rw [List.take_length, if_neg hnc]
        have esz : ({ s with used := 1 + s.sizes s.gcEnd.copied, objs := s.objsA s.gcEnd.copied.length, small := s.gcEnd.copied, large := s.largeAt i, slots := s.slotsC i } : RS).size x = s.size x := by unfold RS.size; rw [eob6]
        have hlw : s.lw x = s.size x + 1 := by unfold RS.lw; rw [if_pos hxn]
        refine Cond_t rfl (PtrOk_mk ⟨((s.largeAt i : Nat) : Int), (r6.c 3).trans rfl, _, rsize_raw r6 hxl6 (by rw [eob6]; exact hq1) (by rw [eob6]; exact hq2) ⟨rfl, rfl⟩, PtrOk_mk ?_⟩)
        rw [esz]
        have ev : IntKind.wrap .i64 ((IntKind.wrap .i64 (((s.largeAt i : Nat) : Int) + (1 : Int))) + ((s.size x : Nat) : Int)) = ((s.largeAt (i + 1) : Nat) : Int) := by
          rw [wrap_ar (x := ((s.largeAt i : Nat) : Int) + 1) (by omega) (by omega), wrap_ar (by omega) (by omega)]; omega
        rw [ev]
        have es : s.slotsC (i + 1) = s.slotsC i := by rw [RS.slotsC_succ hx, if_pos hxn]; exact RS.set_same (RS.slotsC_get hx)
        refine r6.num (i := 3) (s' := { s with used := 1 + s.sizes s.gcEnd.copied, objs := s.objsA s.gcEnd.copied.length, small := s.gcEnd.copied, large := s.largeAt (i + 1), slots := s.slotsC (i + 1) }) (add_ad _ _) (by omega) rfl rfl rfl es rfl fun h7 M7 r7 c7 => ?_
        unfold f89K2
        exact ⟨s.slots.length - (i + 1), by omega, i + 1, M7, g6, hil, rfl, rfl, rfl, hwr, r7, c6.trans c7⟩
      · rw [decide_eq_false (show ¬ s.doneP x from fun c => c.elim hnc hxn)]
        exact fin0 hxn
    · have : x = 0 := by omega
      subst this
      exact fin0 fun hm => (kf.ln 0 hm).1 rfl
  have : i = s.slots.length := by omega
  subst this
  /- objects that were not reached are no more -/
  have hfin : s.slotsC s.slots.length = s.collection.slots := by unfold RS.slotsC; rw [List.take_length, List.drop_length, List.append_nil]; rfl
  have hob := v.ob
  refine f89L3_rule (fun q s0 s2 s6 h' => ∃ (i : Nat) (M' : Mem) (g' : RGeo), 1 ≤ i ∧ i ≤ s.objs.length ∧ q = s.objs.length - i ∧ s0 = some (ad rb) ∧ s2 = some (ad wb) ∧ s6 = (i : Int) ∧
    RT h' rb M' { s with used := 1 + s.sizes s.gcEnd.copied, objs := s.objsB i, small := s.gcEnd.copied, large := s.collection.large, slots := s.collection.slots } g' ∧ Chg h4 M4 h' M') (s.objs.length - 1)
    ⟨1, M6, g6, Nat.le_refl _, hob, rfl, rfl, rfl, rfl, by rw [RS.objsB_one, ← hfin, ← RS.largeAt_len]; exact r6, c6⟩ ?_
  rintro q s0 s2 s6 g0 h7 ⟨i, M7, g7, hi1, hi, rfl, rfl, rfl, rfl, r7, c7⟩
  have w7 := keepW c7
  have hon := r7.os_n
  have hon : g7.os.n = (s.objsB i).length := hon
  rw [RS.objsB_len] at hon
  have c6' : cell h7 ((ad rb).add 6) = some (.slice g7.os.a g7.os.n g7.os.c) := (r7.c 6).trans rfl
  unfold f89L3
  refine PtrOk_mk ⟨g7.os, c6', Cond_dec (fun hlt7 => ?_) fun hge7 => ?_⟩
  · have hil : i < s.objs.length := by omega
    obtain ⟨bd, e1, e2, e3, e4⟩ := w7.at hil
    have hwr : IntKind.wrap .i64 ((i : Int) + 1) = ((i + 1 : Nat) : Int) := by rw [wrap_ar (by omega) (by omega)]; rfl
    refine PtrOk_mk ⟨ds, e1, e4, PtrOk_of e2 ⟨_, by rw [Int.toNat_natCast]; exact e3, ?_⟩⟩
    by_cases hd : s.doneP i
    · rw [decide_eq_true hd]
      refine Cond_f rfl ?_
      unfold f89K3
      exact ⟨s.objs.length - (i + 1), by omega, i + 1, M7, g7, by omega, hil, rfl, rfl, rfl, hwr, by rw [RS.objsB_done hd]; exact r7, c7⟩
    · rw [decide_eq_false hd]
      obtain ⟨ob, hoa, st⟩ := r7.zeroObj (id := i) (by show i < (s.objsB i).length; rw [RS.objsB_len]; exact hil)
      refine Cond_t rfl (PtrOk_mk ⟨g7.os, c6', ⟨by omega, by omega⟩, PtrOk_of hoa ?_⟩)
      rw [Int.toNat_natCast]
      refine st _ fun h8 M8 r8 c8 => ?_
      unfold f89K3
      refine ⟨s.objs.length - (i + 1), by omega, i + 1, M8, { g7 with gs := g7.gs.set i nilG }, by omega, hil, rfl, rfl, rfl, hwr, ?_, c7.trans c8⟩
      rw [RS.objsB_not (by omega) hil hd]
      exact r8
  have : i = s.objs.length := by omega
  subst this
  rw [RS.objsB_end (Nat.le_refl _)] at r7
  refine PtrOk_mk (r7.num (i := 4) (s' := { s with used := 1 + s.sizes s.gcEnd.copied, objs := s.collection.objs, small := s.gcEnd.copied, large := s.collection.large, slots := s.collection.slots, since := 0 }) (add_ad _ _) (by omega) rfl rfl rfl rfl rfl fun h8 M8 r8 c8 => PtrOk_mk ⟨((s.collection.large : Nat) : Int), (r8.c 3).trans rfl, PtrOk_mk ?_⟩)
  refine r8.num (i := 5) (s' := { s with used := 1 + s.sizes s.gcEnd.copied, objs := s.collection.objs, small := s.gcEnd.copied, large := s.collection.large, slots := s.collection.slots, since := 0, kept := s.collection.large }) (add_ad _ _) (by omega) rfl rfl rfl rfl rfl fun h9 M9 r9 c9 => PtrOk_mk ⟨s.coll, (r9.c 10).trans rfl, PtrOk_mk ?_⟩
  refine r9.num (i := 10) (s' := { s with used := 1 + s.sizes s.gcEnd.copied, objs := s.collection.objs, small := s.gcEnd.copied, large := s.collection.large, slots := s.collection.slots, since := 0, kept := s.collection.large, coll := IntKind.wrap .i64 (s.coll + 1) }) (add_ad _ _) (by omega) rfl rfl rfl rfl rfl fun h10 M10 r10 c10 => PtrOk_mk ⟨((1 + s.sizes s.gcEnd.copied : Nat) : Int), (r10.c 2).trans rfl, PtrOk_mk ?_⟩
  have ev : IntKind.wrap .i64 (((1 + s.sizes s.gcEnd.copied : Nat) : Int) - (1 : Int)) = ((s.sizes s.gcEnd.copied : Nat) : Int) := by rw [wrap_ar (by omega) (by omega)]; omega
  rw [ev]
  refine r10.num (i := 12) (s' := s.collection) (add_ad _ _) (by omega) rfl rfl rfl rfl rfl fun h11 M11 r11 c11 => ?_
  exact hR h11 M11 _ r11 (ch4.trans (((((c7.trans c8).trans c9).trans c10)).trans c11))
theorem rcollect_ok (r : RT h rb M s gg) (v : s.Inv) (hol : s.objs.length ≤ 100000000) {R : Value → Hp → Prop} (hR : ∀ h' M' g', RT h' rb M' s.collect g' → Chg h M h' M' → R (.tuple #[]) h') : CallTo Try.prog 73 #[.pointer (some (ad rb))] h R := by
  refine f73F_ok ?_
  unfold f73F
  exact rcollection_ok r v hol fun h1 M1 g1 r1 c1 => ⟨rfl, rfit_ok r1 v.collection (k := 0) (by omega) fun h2 M2 r2 c2 => ⟨rfl, hR h2 M2 g1 r2 (c1.trans c2)⟩⟩
theorem rresize_ok (r : RT h rb M s gg) (v : s.Inv) (hol : s.objs.length ≤ 100000000) {n : Int} {R : Value → Hp → Prop} (hR : ∀ h' M' g', RT h' rb M' (s.resize n).1 g' → Chg h M h' M' → R (.int .i64 (s.resize n).2) h') : CallTo Try.prog 74 #[.pointer (some (ad rb)), .int .i64 n] h R := by
  have i4 := v.l2
  refine f74F_ok ?_
  unfold f74F
  have bad : n < 64 ∨ n > 524288 → f74K1 (some (ad rb)) n true h R := fun hb' => by
    unfold f74K1
    have e : s.resize n = (s, 36) := by unfold RS.resize; rw [if_pos hb']
    rw [e] at hR
    exact Cond_t rfl (hR h M gg r (Chg.refl _ _))
  refine Cond_dec (fun h1 => bad (.inl h1)) fun h1 => ?_
  by_cases h2 : n > 524288
  · rw [decide_eq_true h2]; exact bad (.inr h2)
  rw [decide_eq_false h2]
  unfold f74K1
  refine Cond_f rfl (rcollection_ok r v hol fun h1 M1 g1 r1 c1 => ⟨rfl, ?_⟩)
  have v1 := v.collection
  have e0 : s.resize n = if s.collection.used > n ∨ 2 * n + s.collection.large > s.limit then (s.collection, 31) else (s.collection.become n.toNat, 0) := by unfold RS.resize; rw [if_neg (by omega)]
  have i3 := v1.h2
  have i6 : s.collection.limit = s.limit := rfl
  refine PtrOk_mk ⟨((s.collection.used : Nat) : Int), (r1.c 2).trans rfl, Cond_dec (fun hc => ?_) fun hc => PtrOk_mk ⟨((s.collection.large : Nat) : Int), (r1.c 3).trans rfl, PtrOk_mk ⟨((s.limit : Nat) : Int), r1.c0, ?_⟩⟩⟩
  · rw [e0, if_pos (.inl (by omega))] at hR
    exact hR h1 M1 g1 r1 c1
  · rw [wrap_ar (x := (2 : Int) * n) (by omega) (by omega), wrap_ar (by omega) (by omega)]
    refine Cond_dec (fun hd => ?_) fun hd => ?_
    · rw [e0, if_pos (.inr (by omega))] at hR
      exact hR h1 M1 g1 r1 c1
    · rw [e0, if_neg (by omega)] at hR
      obtain ⟨k, rfl⟩ := Int.eq_ofNat_of_zero_le (show 0 ≤ n by omega)
      exact rbecome_ok r1 fun h2 M2 r2 c2 => ⟨rfl, hR h2 M2 g1 r2 (c1.trans c2)⟩
end
end Go.Ev
set_option linter.all false
set_option maxRecDepth 100000
namespace Go.Ev
open Go.Proofs
section
variable {h h' : Hp} {rb wb : Nat} {M W X : Mem} {s : RS} {gg : RGeo}
theorem rref_raw (r : RT h rb M s gg) {id : Nat} (h0 : id ≠ 0) (hid : id < s.objs.length) (hpl : (s.obj id).pl < 1000000000) {R : Value → Hp → Prop} (hR : R (uv (s.ref id)) h) : CallTo Try.prog 106 #[.pointer (some (ad rb)), nv id] h R := by
  have ht : top = 9223372036854775808 := rfl
  refine f106F_ok ?_
  unfold f106F
  obtain ⟨b, go, hb, hg, ha, cb, c0, cj, _, _⟩ := r.obj hid
  have c6 : cell h ((ad rb).add 6) = some (.slice gg.os.a gg.os.n gg.os.c) := (r.c 6).trans rfl
  have c4 := cj 4 (by omega)
  have c5 := cj 5 (by omega)
  refine Cond_f (by simp; omega) (PtrOk_mk ⟨gg.os, c6, cb, PtrOk_of ha ⟨_, by rw [Int.toNat_natCast]; exact c4.trans rfl, ?_⟩⟩)
  cases hbig : (s.obj id).big with
  | true =>
    rw [RS.ref_big h0 hbig] at hR
    refine Cond_t rfl (PtrOk_mk ⟨gg.os, c6, cb, PtrOk_of ha ⟨_, by rw [Int.toNat_natCast]; exact c5.trans rfl, ?_⟩⟩)
    rw [wrap_u64' (x := (((s.obj id).pl : Nat) : Int)) (by omega) (by omega), wrap_u64' (by omega) (by omega)]
    have e : (9223372036854775808 : Int) + (((s.obj id).pl : Nat) : Int) = ((top + (s.obj id).pl : Nat) : Int) := by omega
    rw [e]
    exact hR
  | false =>
    rw [RS.ref_small h0 hbig] at hR
    refine Cond_f rfl (PtrOk_mk ⟨gg.os, c6, cb, PtrOk_of ha ⟨_, by rw [Int.toNat_natCast]; exact c5.trans rfl, ?_⟩⟩)
    rw [wrap_u64' (x := (((s.obj id).pl : Nat) : Int)) (by omega) (by omega)]
    exact hR
def pushO (s : RS) (o : RObj) : RS := { s with objs := s.objs ++ [o] }
/-- The new object's cells and lists. -/
structure JX (h0 h : Hp) (X : Mem) (bo br bw : Nat) (cs : List Value) (r w : Nat) : Prop where
  sep : Sep h X
  x0 : X.loc 0 = some bo
  x1 : X.loc 1 = some br
  x2 : X.loc 2 = some bw
  c0 : X.cont 0 = cs
  c1 : X.cont 1 = List.replicate r (nv 0)
  c2 : X.cont 2 = List.replicate w (uv 0)
  own : ∀ b, X.own b → h0.size ≤ b
  kp : Kept N h0 h
theorem JX.st {h0 : Hp} {bo br bw : Nat} {cs : List Value} {r w : Nat} (j : JX h0 h X bo br bw cs r w) {a : Addr} {i : Nat} {v : Value} (ha : a = ⟨bo, i, none⟩) (hi : i < cs.length) {K : Hp → Prop} (hK : ∀ h' X', JX h0 h' X' bo br bw (cs.set i v) r w → K h') :
    stOk h a ∧ Let (setc h a v) fun h' => K h' := by
  refine j.sep.st j.x0 ha (by rw [j.c0]; exact hi) fun h' sp ch => hK h' _ ⟨sp, Mem.loc_self .., ?_, ?_, by rw [Mem.cont_self, j.c0], ?_, ?_, fun b hb => ?_, ?_⟩
  · rw [Mem.loc_ne _ _ _ (by omega)]; exact j.x1
  · rw [Mem.loc_ne _ _ _ (by omega)]; exact j.x2
  · rw [Mem.cont_ne _ _ _ (by omega)]; exact j.c1
  · rw [Mem.cont_ne _ _ _ (by omega)]; exact j.c2
  · rcases ch.2 b hb with h | h
    · exact j.own b h
    · have := j.kp.1; omega
  · exact ⟨Nat.le_trans j.kp.1 ch.1.1, fun b hb _ => (ch.1.2 b (Nat.lt_of_lt_of_le hb j.kp.1) fun o => by have := j.own b o; omega).trans (j.kp.2 b hb id)⟩
theorem join_k1 {h0 : Hp} {bo br bw : Nat} {k r w pl : Nat} {big : Bool} (r0 : RT h0 rb M s gg) (hol : s.objs.length ≤ 100000000) (ho1 : 1 ≤ s.objs.length) (hpl : pl < 1000000000)
    (j : JX h0 h X bo br bw [nv k, .slice (some (ad br)) r r, .slice (some (ad bw)) w w, .bool true, .bool big, nv pl] r w) {R : Value → Hp → Prop}
    (hR : ∀ h' M' g', RT h' rb M' (pushO s (RS.mkO k r w big pl)) g' → Chg h0 M h' M' → R (uv (if big = true then top + pl else pl)) h') : f91K1 (some (ad rb)) (ad bo) h R := by
  have rt := r0.keep j.kp (fun _ _ e => e)
  unfold f91K1
  have c6 : cell h ((ad rb).add 6) = some (.slice gg.os.a gg.os.n gg.os.c) := (rt.c 6).trans rfl
  have cc : ∀ i, cell h ((ad bo).add i) = [nv k, .slice (some (ad br)) r r, .slice (some (ad bw)) w w, .bool true, .bool big, nv pl][i]? := fun i => by rw [j.sep.cellA j.x0, j.c0]
  have cc0 : cell h (ad bo) = some (nv k) := by rw [j.sep.cell0 j.x0, j.c0]; rfl
  refine PtrOk_mk ⟨gg.os, c6, (k : Int), cc0, ⟨some (ad br), r, r⟩, cc 1, ⟨some (ad bw), w, w⟩, cc 2, true, cc 3, big, cc 4, (pl : Int), cc 5, Let_mk fun h1 e1 => ?_⟩
  have k1 : Kept N h h1 := e1 ▸ kept_push _ _ _
  have r1 := rt.keep k1 (fun _ _ e => e)
  have hon := r1.os_n
  have row1 : Row h1 h.size [nv k, .slice (some (ad br)) r r, .slice (some (ad bw)) w w, .bool true, .bool big, nv pl] := e1 ▸ row_new h #[nv k, .slice (some (ad br)) r r, .slice (some (ad bw)) w w, .bool true, .bool big, nv pl] 139
  have sx1 : Sep h1 X := j.sep.keepN k1
  have c61 : cell h1 ((ad rb).add 6) = some (.slice gg.os.a gg.os.n gg.os.c) := (r1.c 6).trans rfl
  refine ⟨⟨gg.os, c61, rfl⟩, [nv k, .slice (some (ad br)) r r, .slice (some (ad bw)) w w, .bool true, .bool big, nv pl], reads_row row1 (fun i v hv => by rw [Nat.zero_add]; exact hv), rfl, ?_⟩
  have hown : ∀ b, M.own b → b < h0.size := fun b hb => r0.sep.own_lt hb
  have dj1 : ∀ b, M.own b → ¬ X.own b := fun b hm hx => by have := hown b hm; have := j.own b hx; omega
  have hz : (s.objs.zip gg.gs).length = s.objs.length := by rw [List.length_zip, r1.rep.gl]; omega
  refine r1.rep.ob.app r1.sep rfl rfl (fun v hv => by
    simp only [List.mem_cons, List.not_mem_nil, or_false] at hv
    rcases hv with rfl | rfl | rfl | rfl | rfl | rfl <;> rfl) (by omega) (by omega) fun a' c' h2 ob c sp2 sl2 ch2 => PtrOk_mk ?_
  have sx2 : Sep h2 X := sx1.keep ch2.1 fun b hx hm => dj1 b hm hx
  have l0 : (M.upd 1 ob c).loc 0 = some rb := by rw [Mem.loc_ne _ _ _ (by omega)]; exact r1.loc
  have c0 : (M.upd 1 ob c).cont 0 = rhd s gg := by rw [Mem.cont_ne _ _ _ (by omega)]; exact r1.rep.hd
  have dj2 := apart_chg (M := X) (W := M) sx1 (fun b hx hm => dj1 b hm hx) ch2
  refine sp2.st l0 (add_ad _ _) (by rw [c0]; show 6 < 13; omega) fun h3 sp3 ch3 => PtrOk_mk ?_
  have sx3 : Sep h3 X := sx2.keep ch3.1 fun b hx hm => dj2 b hx hm
  have dj3 := apart_chg (M := X) sx2 dj2 ch3
  have n5 : ∀ x, x < 5 → x ≠ 5 + 2 * s.objs.length ∧ x ≠ 6 + 2 * s.objs.length := fun x hx => ⟨by omega, by omega⟩
  generalize hM3 : (M.upd 1 ob c).upd 0 _ _ = M3 at sp3 ch3 dj3
  have sp4 := sp3.give sx3 (fun b hm hx => dj3 b hx hm) (5 + 2 * s.objs.length) 1
  have dj4 : ∀ b, (M3.upd (5 + 2 * s.objs.length) (X.loc 1) (X.cont 1)).own b → ¬ (X.upd 1 none []).own b := fun b hm hx => by
    obtain ⟨y, hy⟩ := hx
    by_cases ey : y = 1
    · subst ey; rw [Mem.loc_self] at hy; cases hy
    rw [Mem.loc_ne _ _ _ ey] at hy
    obtain ⟨x, hx⟩ := hm
    by_cases ex : x = 5 + 2 * s.objs.length
    · subst ex
      rw [Mem.loc_self] at hx
      exact ey (j.sep.inj y 1 b hy hx)
    · rw [Mem.loc_ne _ _ _ ex] at hx
      exact dj3 b ⟨y, hy⟩ ⟨x, hx⟩
  have sp5 := sp4.give (sx3.drop 1 []).1 dj4 (6 + 2 * s.objs.length) 2
  rw [Mem.loc_ne _ _ _ (show 2 ≠ 1 by omega), Mem.cont_ne _ _ _ (show 2 ≠ 1 by omega), j.x1, j.c1, j.x2, j.c2] at sp5
  have hM : ∀ x, x ≠ 0 → x ≠ 1 → M3.loc x = M.loc x ∧ M3.cont x = M.cont x := fun x e0 e1 => by
    rw [← hM3]
    rw [Mem.loc_ne _ _ _ e0, Mem.loc_ne _ _ _ e1, Mem.cont_ne _ _ _ e0, Mem.cont_ne _ _ _ e1]
    exact ⟨rfl, rfl⟩
  have oth : ∀ {sz x : Nat} {sl : Sl} {vs : List Value}, x ≠ 0 → x ≠ 1 → IsSl sz M x sl vs → IsSl sz M3 x sl vs := fun {sz x sl vs} e0 e1 i => by
    obtain ⟨q1, q2⟩ := hM x e0 e1
    exact ⟨i.len, fun e => i.nil (by rw [← q1]; exact e), fun b e => by rw [q2]; exact i.row b (by rw [← q1]; exact e)⟩
  have r5 : RT h3 rb ((M3.upd (5 + 2 * s.objs.length) (some br) (List.replicate r (nv 0))).upd (6 + 2 * s.objs.length) (some bw) (List.replicate w (uv 0))) (pushO s (RS.mkO k r w big pl))
      { gg with gs := gg.gs ++ [⟨⟨some (ad br), r, r⟩, ⟨some (ad bw), w, w⟩, true⟩], os := ⟨a', gg.os.n + 1, c'⟩ } := by
    refine ⟨sp5, ?_, ⟨?_, ?_, ?_, ?_, ?_, ?_, fun i o go h1 h2 => ?_⟩⟩
    · rw [Mem.loc_ne _ _ _ (by omega), Mem.loc_ne _ _ _ (by omega), ← hM3, Mem.loc_self]
    · rw [Mem.cont_ne _ _ _ (by omega), Mem.cont_ne _ _ _ (by omega), ← hM3, Mem.cont_self, c0]; rfl
    · show (gg.gs ++ [_]).length = (s.objs ++ [_]).length
      rw [List.length_append, List.length_append, r1.rep.gl]; rfl
    · have e : ((s.objs ++ [RS.mkO k r w big pl]).zip (gg.gs ++ [⟨⟨some (ad br), r, r⟩, ⟨some (ad bw), w, w⟩, true⟩])).flatMap ocells = (s.objs.zip gg.gs).flatMap ocells ++ [nv k, .slice (some (ad br)) r r, .slice (some (ad bw)) w w, .bool true, .bool big, nv pl] := by
        rw [List.zip_append (by rw [r1.rep.gl]), List.flatMap_append]; rfl
      show IsSl 6 _ 1 _ (((s.objs ++ [RS.mkO k r w big pl]).zip (gg.gs ++ [⟨⟨some (ad br), r, r⟩, ⟨some (ad bw), w, w⟩, true⟩])).flatMap ocells)
      rw [e]
      refine IsSl.other (IsSl.other ?_ (by omega)) (by omega)
      rw [← hM3]
      exact sl2.other (by omega)
    · exact ((oth (by omega) (by omega) r1.rep.sm).other (by omega)).other (by omega)
    · exact ((oth (by omega) (by omega) r1.rep.sl).other (by omega)).other (by omega)
    · exact ((oth (by omega) (by omega) r1.rep.rt).other (by omega)).other (by omega)
    · have h1 : (s.objs ++ [RS.mkO k r w big pl])[i]? = some o := h1
      have h2 : (gg.gs ++ [⟨⟨some (ad br), r, r⟩, ⟨some (ad bw), w, w⟩, true⟩])[i]? = some go := h2
      rcases Nat.lt_trichotomy i s.objs.length with hi | hi | hi
      · rw [List.getElem?_append_left hi] at h1
        rw [List.getElem?_append_left (by rw [r1.rep.gl]; exact hi)] at h2
        obtain ⟨q1, q2⟩ := r1.rep.rf i o go h1 h2
        exact ⟨((oth (by omega) (by omega) q1).other (by omega)).other (by omega), ((oth (by omega) (by omega) q2).other (by omega)).other (by omega)⟩
      · subst hi
        rw [List.getElem?_append_right (Nat.le_refl _), Nat.sub_self] at h1
        rw [List.getElem?_append_right (by rw [r1.rep.gl]; exact Nat.le_refl _), r1.rep.gl, Nat.sub_self] at h2
        obtain rfl := Option.some.inj h1
        obtain rfl := Option.some.inj h2
        refine ⟨IsSl.other ⟨by simp [RS.mkO], (fun e => by rw [Mem.loc_self] at e; cases e), fun b e => ?_⟩ (by omega), ⟨by simp [RS.mkO], (fun e => by rw [Mem.loc_self] at e; cases e), fun b e => ?_⟩⟩
        · rw [Mem.loc_self] at e
          obtain rfl := Option.some.inj e
          rw [Mem.cont_self]
          exact ⟨rfl, Nat.le_refl _, [], by simp [RS.mkO], by simp [RS.mkO]⟩
        · rw [Mem.loc_self] at e
          obtain rfl := Option.some.inj e
          rw [Mem.cont_self]
          exact ⟨rfl, Nat.le_refl _, [], by simp [RS.mkO], by simp [RS.mkO]⟩
      · rw [List.getElem?_eq_none (by simp; omega)] at h1; cases h1
  have hon5 := r5.os_n
  have hlen : (pushO s (RS.mkO k r w big pl)).objs.length = s.objs.length + 1 := by show (s.objs ++ [_]).length = _; rw [List.length_append]; rfl
  have c65 : cell h3 ((ad rb).add 6) = some (.slice a' (gg.os.n + 1) c') := (r5.c 6).trans rfl
  refine ⟨⟨a', gg.os.n + 1, c'⟩, c65, ?_⟩
  have ev : IntKind.wrap .i64 (((gg.os.n + 1 : Nat) : Int) - (1 : Int)) = ((s.objs.length : Nat) : Int) := by rw [wrap_ar (by omega) (by omega)]; omega
  show CallTo Try.prog 106 #[.pointer (some (ad rb)), .int .i64 (IntKind.wrap .i64 (((gg.os.n + 1 : Nat) : Int) - (1 : Int)))] h3 _
  rw [ev]
  have eob : (pushO s (RS.mkO k r w big pl)).obj s.objs.length = RS.mkO k r w big pl := RS.app_new rfl
  refine rref_raw (id := s.objs.length) r5 (by omega) (by omega) (by rw [eob]; exact hpl) ⟨_, rfl, ?_⟩
  have er : (pushO s (RS.mkO k r w big pl)).ref s.objs.length = if big = true then top + pl else pl := by
    unfold RS.ref
    rw [if_neg (by omega), eob]
    rfl
  rw [er]
  refine hR h3 _ _ r5 ?_
  have k03 : Kept M.own h0 h3 := by
    have ka : Kept M.own h h2 := (k1.mono fun _ _ e => e.elim).trans ch2.1
    refine ⟨Nat.le_trans j.kp.1 (Nat.le_trans ka.1 ch3.1.1), fun b hb hn => ?_⟩
    have hb1 := Nat.lt_of_lt_of_le hb j.kp.1
    rw [ch3.1.2 b (Nat.lt_of_lt_of_le hb1 ka.1) fun hm => ?_, ka.2 b hb1 hn, j.kp.2 b hb id]
    rcases ch2.2 b hm with h | h
    · exact hn h
    · have := k1.1; omega
  refine ⟨k03, fun b hb => ?_⟩
  obtain ⟨x, hx⟩ := hb
  by_cases e6 : x = 6 + 2 * s.objs.length
  · subst e6; rw [Mem.loc_self] at hx; obtain rfl := Option.some.inj hx; exact .inr (j.own _ ⟨2, j.x2⟩)
  rw [Mem.loc_ne _ _ _ e6] at hx
  by_cases e5 : x = 5 + 2 * s.objs.length
  · subst e5; rw [Mem.loc_self] at hx; obtain rfl := Option.some.inj hx; exact .inr (j.own _ ⟨1, j.x1⟩)
  rw [Mem.loc_ne _ _ _ e5] at hx
  rcases ch3.2 b ⟨x, hx⟩ with h | h
  · rcases ch2.2 b h with h | h
    · exact .inl h
    · exact .inr (by have := j.kp.1; have := k1.1; omega)
  · exact .inr (by have := j.kp.1; have := k1.1; have := ch2.1.1; omega)
theorem zrow_r (v : Value) (n : Nat) : (zrow #[v] ((n : Int).toNat * 1)).toList = List.replicate n v := by rw [Int.toNat_natCast, zrow_one]
/-- The six stores. -/
theorem join_st {h0 : Hp} {bo br bw : Nat} {k r w pl : Nat} {big : Bool} (r0 : RT h0 rb M s gg) (hol : s.objs.length ≤ 100000000) (ho1 : 1 ≤ s.objs.length) (hpl : pl < 1000000000)
    (j : JX h0 h X bo br bw [.int .i64 0, .slice none 0 0, .slice none 0 0, .bool false, .bool false, .int .i64 0] r w) {R : Value → Hp → Prop}
    (hR : ∀ h' M' g', RT h' rb M' (pushO s (RS.mkO k r w big pl)) g' → Chg h0 M h' M' → R (uv (if big = true then top + pl else pl)) h') :
    stOk h (ad bo) ∧ Let (setc h (ad bo) (.int .i64 (k : Nat))) fun h4 => stOk h4 ((ad bo).add 1) ∧ Let (setc h4 ((ad bo).add 1) (.slice (some (ad br)) ((r : Nat) : Int).toNat ((r : Nat) : Int).toNat)) fun h5 => stOk h5 ((ad bo).add 2) ∧ Let (setc h5 ((ad bo).add 2) (.slice (some (ad bw)) ((w : Nat) : Int).toNat ((w : Nat) : Int).toNat)) fun h6 => stOk h6 ((ad bo).add 3) ∧ Let (setc h6 ((ad bo).add 3) (.bool true)) fun h7 => stOk h7 ((ad bo).add 4) ∧ Let (setc h7 ((ad bo).add 4) (.bool big)) fun h8 => stOk h8 ((ad bo).add 5) ∧ Let (setc h8 ((ad bo).add 5) (.int .i64 (pl : Nat))) fun h9 => f91K1 (some (ad rb)) (ad bo) h9 R := by
  rw [Int.toNat_natCast, Int.toNat_natCast]
  refine j.st (i := 0) rfl (by show 0 < 6; omega) fun h1 X1 j1 => ?_
  refine j1.st (i := 1) (add_ad _ _) (by show 1 < 6; omega) fun h2 X2 j2 => ?_
  refine j2.st (i := 2) (add_ad _ _) (by show 2 < 6; omega) fun h3 X3 j3 => ?_
  refine j3.st (i := 3) (add_ad _ _) (by show 3 < 6; omega) fun h4 X4 j4 => ?_
  refine j4.st (i := 4) (add_ad _ _) (by show 4 < 6; omega) fun h5 X5 j5 => ?_
  refine j5.st (i := 5) (add_ad _ _) (by show 5 < 6; omega) fun h6 X6 j6 => ?_
  exact join_k1 r0 hol ho1 hpl j6 hR
theorem rjoin_ok {k r w pl : Nat} {big : Bool} (r0 : RT h rb M s gg) (hol : s.objs.length ≤ 100000000) (ho1 : 1 ≤ s.objs.length) (hr : r ≤ 1048576) (hw : w ≤ 1048576) (hpl : pl < 1000000000) {R : Value → Hp → Prop}
    (hR : ∀ h' M' g', RT h' rb M' (pushO s (RS.mkO k r w big pl)) g' → Chg h M h' M' → R (uv (if big = true then top + pl else pl)) h') :
    CallTo Try.prog 91 #[.pointer (some (ad rb)), .int .i64 (k : Nat), .int .i64 (r : Nat), .int .i64 (w : Nat), .bool big, .int .i64 (pl : Nat)] h R := by
  refine f91F_ok ?_
  unfold f91F
  let X0 : Mem := ⟨fun _ => none, fun _ => []⟩
  have s0 : Sep h X0 := ⟨nofun, nofun⟩
  have ow0 : ∀ b, ¬ X0.own b := fun b ⟨x, hx⟩ => by cases hx
  have fin : ∀ {h' : Hp} {X : Mem} {bo br bw : Nat}, Sep h' X → Chg h X0 h' X → X.loc 0 = some bo → X.loc 1 = some br → X.loc 2 = some bw → X.cont 0 = [.int .i64 0, .slice none 0 0, .slice none 0 0, .bool false, .bool false, .int .i64 0] →
      X.cont 1 = List.replicate r (nv 0) → X.cont 2 = List.replicate w (uv 0) → JX h h' X bo br bw [.int .i64 0, .slice none 0 0, .slice none 0 0, .bool false, .bool false, .int .i64 0] r w :=
    fun {h' X bo br bw} sp ch a1 a2 a3 a4 a5 a6 => ⟨sp, a1, a2, a3, a4, a5, a6, fun b hb => (ch.2 b hb).resolve_left (ow0 b), ch.1.mono fun b _ e => ow0 b e⟩
  have br : (0 : Int) ≤ ((r : Nat) : Int) ∧ ((r : Nat) : Int) ≤ ((r : Nat) : Int) := ⟨by omega, by omega⟩
  have bw : (0 : Int) ≤ ((w : Nat) : Int) ∧ ((w : Nat) : Int) ≤ ((w : Nat) : Int) := ⟨by omega, by omega⟩
  have zr := zrow_r (.int .i64 0) r
  have zw := zrow_r (.int .u64 0) w
  have pR : ∀ {a b : Hp} {X : Mem}, b = a.push (.cells (zrow #[.int .i64 0] (((r : Nat) : Int).toNat * 1)) 3) → Sep a X → Chg h X0 a X → Sep b (X.upd 1 (some a.size) (List.replicate r (nv 0))) ∧ Chg h X0 b (X.upd 1 (some a.size) (List.replicate r (nv 0))) := fun {a b X} e sp ch => by
    obtain ⟨q1, q2⟩ := sp.push 1 (zrow #[.int .i64 0] (((r : Nat) : Int).toNat * 1)) 3
    rw [← e, zr] at q1 q2
    exact ⟨q1, ch.trans q2⟩
  have pW : ∀ {a b : Hp} {X : Mem}, b = a.push (.cells (zrow #[.int .u64 0] (((w : Nat) : Int).toNat * 1)) 30) → Sep a X → Chg h X0 a X → Sep b (X.upd 2 (some a.size) (List.replicate w (uv 0))) ∧ Chg h X0 b (X.upd 2 (some a.size) (List.replicate w (uv 0))) := fun {a b X} e sp ch => by
    obtain ⟨q1, q2⟩ := sp.push 2 (zrow #[.int .u64 0] (((w : Nat) : Int).toNat * 1)) 30
    rw [← e, zw] at q1 q2
    exact ⟨q1, ch.trans q2⟩
  have pO : ∀ {a b : Hp} {X : Mem}, b = a.push (.cells #[.int .i64 0, .slice none 0 0, .slice none 0 0, .bool false, .bool false, .int .i64 0] 139) → Sep a X → Chg h X0 a X →
      Sep b (X.upd 0 (some a.size) [.int .i64 0, .slice none 0 0, .slice none 0 0, .bool false, .bool false, .int .i64 0]) ∧ Chg h X0 b (X.upd 0 (some a.size) [.int .i64 0, .slice none 0 0, .slice none 0 0, .bool false, .bool false, .int .i64 0]) := fun {a b X} e sp ch => by
    obtain ⟨q1, q2⟩ := sp.push 0 #[.int .i64 0, .slice none 0 0, .slice none 0 0, .bool false, .bool false, .int .i64 0] 139
    rw [← e] at q1 q2
    exact ⟨q1, ch.trans q2⟩
  have c0 := Chg.refl h X0
  have g1 : ((r : Nat) : Int) < 2 ^ 62 := by omega
  have g2 : ((8 : Nat) : Int) * ((r : Nat) : Int) ≤ 2 ^ 48 := by omega
  have g3 : ((w : Nat) : Int) < 2 ^ 62 := by omega
  have g4 : ((8 : Nat) : Int) * ((w : Nat) : Int) ≤ 2 ^ 48 := by omega
  refine ⟨⟨br, g1, g2, Let_mk fun a1 e1 => ⟨⟨bw, g3, g4, Let_mk fun a2 e2 => Let_mk fun a3 e3 => ?_⟩, Let_mk fun a2 e2 => ⟨bw, g3, g4, Let_mk fun a3 e3 => ?_⟩⟩⟩,
    ⟨bw, g3, g4, Let_mk fun a1 e1 => ⟨⟨br, g1, g2, Let_mk fun a2 e2 => Let_mk fun a3 e3 => ?_⟩, Let_mk fun a2 e2 => ⟨br, g1, g2, Let_mk fun a3 e3 => ?_⟩⟩⟩,
    Let_mk fun a1 e1 => ⟨⟨br, g1, g2, Let_mk fun a2 e2 => ⟨bw, g3, g4, Let_mk fun a3 e3 => ?_⟩⟩, ⟨bw, g3, g4, Let_mk fun a2 e2 => ⟨br, g1, g2, Let_mk fun a3 e3 => ?_⟩⟩⟩⟩
  · obtain ⟨p1, d1⟩ := pR e1 s0 c0; obtain ⟨p2, d2⟩ := pW e2 p1 d1; obtain ⟨p3, d3⟩ := pO e3 p2 d2
    exact join_st r0 hol ho1 hpl (fin p3 d3 rfl rfl rfl rfl rfl rfl) hR
  · obtain ⟨p1, d1⟩ := pR e1 s0 c0; obtain ⟨p2, d2⟩ := pO e2 p1 d1; obtain ⟨p3, d3⟩ := pW e3 p2 d2
    exact join_st r0 hol ho1 hpl (fin p3 d3 rfl rfl rfl rfl rfl rfl) hR
  · obtain ⟨p1, d1⟩ := pW e1 s0 c0; obtain ⟨p2, d2⟩ := pR e2 p1 d1; obtain ⟨p3, d3⟩ := pO e3 p2 d2
    exact join_st r0 hol ho1 hpl (fin p3 d3 rfl rfl rfl rfl rfl rfl) hR
  · obtain ⟨p1, d1⟩ := pW e1 s0 c0; obtain ⟨p2, d2⟩ := pO e2 p1 d1; obtain ⟨p3, d3⟩ := pR e3 p2 d2
    exact join_st r0 hol ho1 hpl (fin p3 d3 rfl rfl rfl rfl rfl rfl) hR
  · obtain ⟨p1, d1⟩ := pO e1 s0 c0; obtain ⟨p2, d2⟩ := pR e2 p1 d1; obtain ⟨p3, d3⟩ := pW e3 p2 d2
    exact join_st r0 hol ho1 hpl (fin p3 d3 rfl rfl rfl rfl rfl rfl) hR
  · obtain ⟨p1, d1⟩ := pO e1 s0 c0; obtain ⟨p2, d2⟩ := pW e2 p1 d1; obtain ⟨p3, d3⟩ := pR e3 p2 d2
    exact join_st r0 hol ho1 hpl (fin p3 d3 rfl rfl rfl rfl rfl rfl) hR
end
end Go.Ev
set_option linter.all false
set_option maxRecDepth 100000
namespace Go.Ev
open Go.Proofs
section
variable {h h' : Hp} {rb : Nat} {M : Mem} {s : RS} {gg : RGeo}
theorem RT.ss_app (r : RT h rb M s gg) {e nbk : Nat} (x : Nat) (row : Row h nbk [nv x]) (hn : s.small.length ≤ 100000000) {K : Hp → Prop} (hK : ∀ h' M' g', RT h' rb M' { s with small := s.small ++ [x] } g' → Chg h M h' M' → K h') :
    appSl e 1 8 #[.int .i64 0] gg.ss.a gg.ss.n gg.ss.c (some (ad nbk)) 1 h fun ra rn rc h3 => PtrOk (some (ad rb)) fun p => stOk h3 (p.add 7) ∧ Let (setc h3 (p.add 7) (.slice ra rn rc)) fun h4 => K h4 := by
  have hn2 := r.ss_n
  refine ⟨[nv x], reads_row row (fun j v hj => by rw [Nat.zero_add]; exact hj), rfl, ?_⟩
  refine r.rep.sm.app r.sep rfl rfl (fun v hv => by obtain rfl := List.mem_singleton.1 hv; rfl) (by omega) (by omega) fun a' c' h3 ob c sp sl ch => PtrOk_mk ?_
  have l0 : (M.upd 2 ob c).loc 0 = some rb := by rw [Mem.loc_ne _ _ _ (by omega)]; exact r.loc
  have c0 : (M.upd 2 ob c).cont 0 = rhd s gg := by rw [Mem.cont_ne _ _ _ (by omega)]; exact r.rep.hd
  refine sp.st l0 (add_ad _ _) (by rw [c0]; show 7 < 13; omega) fun h4 sp4 ch4 => hK h4 _ { gg with ss := ⟨a', gg.ss.n + 1, c'⟩ } ⟨sp4, Mem.loc_self .., ⟨?_, r.rep.gl, ?_, ?_, ?_, ?_, fun j o go h1 h2 => ?_⟩⟩ (ch.trans ch4)
  · rw [Mem.cont_self, c0]; rfl
  · exact (r.rep.ob.other (by omega)).other (by omega)
  · show IsSl 1 _ 2 _ ((s.small ++ [x]).map nv)
    rw [List.map_append]
    exact sl.other (by omega)
  · exact (r.rep.sl.other (by omega)).other (by omega)
  · exact (r.rep.rt.other (by omega)).other (by omega)
  · obtain ⟨p1, p2⟩ := r.rep.rf j o go h1 h2
    exact ⟨(p1.other (by omega)).other (by omega), (p2.other (by omega)).other (by omega)⟩
theorem rsizeOf_ok {r w : Nat} (hr : r ≤ 1048576) (hw : w ≤ 1048576) {R : Value → Hp → Prop} (hR : R (.int .i64 (1 + r + w : Nat)) h) : CallTo Try.prog 87 #[.int .i64 (r : Nat), .int .i64 (w : Nat)] h R := by
  refine f87F_ok ?_
  unfold f87F
  have e : IntKind.wrap .i64 ((IntKind.wrap .i64 ((1 : Int) + ((r : Nat) : Int))) + ((w : Nat) : Int)) = ((1 + r + w : Nat) : Int) := by
    rw [wrap_ar (x := (1 : Int) + ((r : Nat) : Int)) (by omega) (by omega), wrap_ar (by omega) (by omega)]; omega
  rw [e]
  exact hR
/-- The slot's loop and what follows it. -/
theorem rblock_loop (r0 : RT h rb M s gg) {sl0 : RS} (v : sl0.Inv) (e1 : s.slots = sl0.slots) (e2 : s.objs = sl0.objs) (hol : s.objs.length ≤ 100000000) {k r w : Nat} (h3 : r ≤ 1048576) (h4 : w ≤ 1048576) {R : Value → Hp → Prop}
    (hR : ∀ h' M' g', RT h' rb M' (pushO { s with slots := (if RS.freeSlot s.slots < s.slots.length then s.slots.set (RS.freeSlot s.slots) s.objs.length else s.slots ++ [s.objs.length]) } (RS.mkO k r w true (RS.freeSlot s.slots))) g' → Chg h M h' M' → R (.tuple #[uv (top + RS.freeSlot s.slots), .int .i64 0]) h') :
    LoopEv (evC Try.prog tab lv88 (sub [1, 1, 1, 1, 1, 1, 1, 0, 0, 0] body88)) (contAt Try.prog tab lv88 [1, 1, 1, 1, 1, 1, 1, 0, 0] body88 [] (bodyK Try.prog Try.f88 [] R)) [(0, .pointer (some (ad rb))), (1, .int .i64 (k : Nat)), (2, .int .i64 (r : Nat)), (3, .int .i64 (w : Nat)), (12, .int .i64 0)] 180 h := by
  have i5 := v.sll
  rw [← e1] at i5
  have hob := v.ob
  rw [← e2] at hob
  refine f88L1_rule (fun q s0 s1 s2 s3 s12 h' => ∃ i : Nat, i ≤ s.slots.length ∧ q = s.slots.length - i ∧ s0 = some (ad rb) ∧ s1 = (k : Int) ∧ s2 = (r : Int) ∧ s3 = (w : Int) ∧ s12 = (i : Int) ∧ h' = h ∧ ∀ j, j < i → ∃ x, s.slots[j]? = some x ∧ x ≠ 0) s.slots.length
    ⟨0, Nat.zero_le _, rfl, rfl, rfl, rfl, rfl, rfl, rfl, fun j hj => absurd hj (Nat.not_lt_zero _)⟩ ?_
  rintro q s0 s1 s2 s3 s12 g0 h1 ⟨i, hi, rfl, rfl, rfl, rfl, rfl, rfl, rfl, hall⟩
  have hls := r0.ls_n
  have c8 : cell h1 ((ad rb).add 8) = some (.slice gg.ls.a gg.ls.n gg.ls.c) := (r0.c 8).trans rfl
  /- K4: the slot is written, the object joins -/
  have k4 : ∀ {h2 : Hp} {M2 : Mem} {g2 : RGeo} {l : List Nat}, RT h2 rb M2 { s with slots := l } g2 → Chg h1 M h2 M2 → i < l.length → RS.freeSlot s.slots = i →
      l.set i s.objs.length = (if RS.freeSlot s.slots < s.slots.length then s.slots.set (RS.freeSlot s.slots) s.objs.length else s.slots ++ [s.objs.length]) → f88K4 (some (ad rb)) (k : Int) (r : Int) (w : Int) (i : Int) h2 R := by
    intro h2 M2 g2 l r2 c2 hil hf hl
    unfold f88K4
    have hls2 := r2.ls_n
    have hls2 : g2.ls.n = l.length := hls2
    have hon2 := r2.os_n
    have hon2 : g2.os.n = s.objs.length := hon2
    obtain ⟨b, hb, st⟩ := r2.setSlot (k := i) hil s.objs.length
    refine PtrOk_mk ⟨g2.ls, (r2.c 8).trans rfl, PtrOk_mk ⟨g2.os, (r2.c 6).trans rfl, ⟨by omega, by omega⟩, PtrOk_of hb ?_⟩⟩
    rw [Int.toNat_natCast, hon2]
    refine st _ fun h3 M3 r3 c3 => ?_
    have r3 : RT h3 rb M3 { s with slots := l.set i s.objs.length } g2 := r3
    rw [hl] at r3
    refine rjoin_ok (big := true) (pl := i) r3 hol hob ‹r ≤ _› ‹w ≤ _› (by omega) fun h4 M4 g4 r4 c4 => ⟨_, rfl, ?_⟩
    rw [hf] at hR r4
    exact hR h4 M4 g4 r4 ((c2.trans c3).trans c4)
  unfold f88L1
  refine PtrOk_mk ⟨gg.ls, c8, Cond_dec (fun hlt => ?_) fun hge => ?_⟩
  · have hlt : i < s.slots.length := by omega
    obtain ⟨x, hx⟩ : ∃ x, s.slots[i]? = some x := ⟨_, List.getElem?_eq_getElem hlt⟩
    obtain ⟨b, _, ha, hc, cb⟩ := sl_at r0.rep.sl r0.sep hx
    refine PtrOk_mk ⟨gg.ls, c8, cb, PtrOk_of ha ⟨((x : Nat) : Int), by rw [Int.toNat_natCast]; exact hc, ?_⟩⟩
    unfold f88K3
    by_cases hx0 : x = 0
    · subst hx0
      have hf : RS.freeSlot s.slots = i := RS.freeSlot_eq _ _ hall (.inl hx)
      refine Cond_f rfl (PtrOk_mk ⟨gg.ls, c8, Cond_f (by simp; omega) (k4 (l := s.slots) r0 (Chg.refl _ _) hlt hf (by rw [hf, if_pos hlt]))⟩)
    · refine Cond_t (by simp; omega) ⟨s.slots.length - (i + 1), by omega, i + 1, hlt, rfl, rfl, rfl, rfl, rfl, by rw [wrap_ar (by omega) (by omega)]; rfl, rfl, fun j hj => ?_⟩
      rcases Nat.lt_or_ge j i with hji | hji
      · exact hall j hji
      · obtain rfl : j = i := by omega
        exact ⟨x, hx, hx0⟩
  · have hie : i = s.slots.length := by omega
    have hf : RS.freeSlot s.slots = i := RS.freeSlot_eq _ _ hall (.inr hie)
    unfold f88K3
    refine Cond_f rfl (PtrOk_mk ⟨gg.ls, c8, Cond_t (by simp; omega) (PtrOk_mk ⟨gg.ls, c8, r0.addSlot 0 (by omega) fun h2 M2 g2 r2 c2 => ?_⟩)⟩)
    refine k4 r2 c2 (by rw [List.length_append]; show i < s.slots.length + 1; omega) hf ?_
    rw [hf, if_neg (by omega), hie, List.set_append_right _ _ (Nat.le_refl _), Nat.sub_self]
    rfl
/-- large and since grow, then the slot. -/
theorem rblock_tail (r0 : RT h rb M s gg) (v : s.Inv) (hol : s.objs.length ≤ 100000000) {k r w : Nat} (h3 : r ≤ 1048576) (h4 : w ≤ 1048576) {R : Value → Hp → Prop}
    (hR : ∀ h' M' g', RT h' rb M' (s.addBig k r w) g' → Chg h M h' M' → R (.tuple #[uv (top + RS.freeSlot s.slots), .int .i64 0]) h') :
    PtrOk (some (ad rb)) fun p111 => ∃ t113 : Int, cell h (p111.add 3) = some (.int .i64 t113) ∧ PtrOk (some (ad rb)) fun p116 => stOk h (p116.add 3) ∧ Let (setc h (p116.add 3) (.int .i64 (IntKind.wrap .i64 (t113 + (2 + r + w : Nat))))) fun h4 => PtrOk (some (ad rb)) fun p120 => ∃ t122 : Int, cell h4 (p120.add 4) = some (.int .i64 t122) ∧ PtrOk (some (ad rb)) fun p125 => stOk h4 (p125.add 4) ∧ Let (setc h4 (p125.add 4) (.int .i64 (IntKind.wrap .i64 (t122 + (2 + r + w : Nat))))) fun h5 => LoopEv (evC Try.prog tab lv88 (sub [1, 1, 1, 1, 1, 1, 1, 0, 0, 0] body88)) (contAt Try.prog tab lv88 [1, 1, 1, 1, 1, 1, 1, 0, 0] body88 [] (bodyK Try.prog Try.f88 [] R)) [(0, .pointer (some (ad rb))), (1, .int .i64 (k : Nat)), (2, .int .i64 (r : Nat)), (3, .int .i64 (w : Nat)), (12, .int .i64 0)] 180 h5 := by
  have i2 := v.h2; have i4 := v.l2; have hsn := v.sn
  refine PtrOk_mk ⟨((s.large : Nat) : Int), (r0.c 3).trans rfl, PtrOk_mk ?_⟩
  have ev6 : IntKind.wrap .i64 (((s.large : Nat) : Int) + ((2 + r + w : Nat) : Int)) = ((s.large + (2 + r + w) : Nat) : Int) := by rw [wrap_ar (by omega) (by omega)]; omega
  rw [ev6]
  refine r0.num (i := 3) (s' := { s with large := s.large + (2 + r + w) }) (add_ad _ _) (by omega) rfl rfl rfl rfl rfl fun h1 M1 r1 c1 => PtrOk_mk ⟨((s.since : Nat) : Int), (r1.c 4).trans rfl, PtrOk_mk ?_⟩
  have ev7 : IntKind.wrap .i64 (((s.since : Nat) : Int) + ((2 + r + w : Nat) : Int)) = ((s.since + (2 + r + w) : Nat) : Int) := by rw [wrap_ar (by omega) (by omega)]; omega
  rw [ev7]
  refine r1.num (i := 4) (s' := { s with large := s.large + (2 + r + w), since := s.since + (2 + r + w) }) (add_ad _ _) (by omega) rfl rfl rfl rfl rfl fun h2 M2 r2 c2 => ?_
  exact rblock_loop r2 v rfl rfl hol h3 h4 fun h' M' g' r' c' => hR h' M' g' r' ((c1.trans c2).trans c')
theorem rblock_rest (r0 : RT h rb M s gg) (v : s.Inv) (hol : s.objs.length ≤ 100000000) {k r w : Nat} (h3 : r ≤ 1048576) (h4 : w ≤ 1048576) {R : Value → Hp → Prop}
    (hR : ∀ h' M' g', RT h' rb M' (s.block2 k r w).1 g' → Chg h M h' M' → R (.tuple #[uv (s.block2 k r w).2.1, .int .i64 (s.block2 k r w).2.2]) h') {x : Bool} (hx : x = false) : f88K1 (some (ad rb)) (k : Nat) (r : Nat) (w : Nat) (2 + r + w : Nat) x h R := by
  have i2 := v.h2; have i4 := v.l2; have i6 := v.h1; have i7 := v.u2
  subst hx
  unfold f88K1
  refine Cond_f rfl (PtrOk_mk ⟨((s.half : Nat) : Int), (r0.c 1).trans rfl, PtrOk_mk ⟨((s.large : Nat) : Int), (r0.c 3).trans rfl, PtrOk_mk ⟨((s.limit : Nat) : Int), r0.c0, ?_⟩⟩⟩)
  rw [wrap_ar (x := (2 : Int) * ((s.half : Nat) : Int)) (by omega) (by omega), wrap_ar (x := (2 : Int) * ((s.half : Nat) : Int) + ((s.large : Nat) : Int)) (by omega) (by omega), wrap_ar (x := (2 : Int) * ((s.half : Nat) : Int) + ((s.large : Nat) : Int) + ((2 + r + w : Nat) : Int)) (by omega) (by omega)]
  refine Cond_dec (fun hc => ?_) fun hc => ?_
  · have hc : s.limit < 2 * s.half + s.large + (2 + r + w) := by omega
    have full : (s.limit < s.large + (2 + r + w) ∨ (s.limit - s.large - (2 + r + w)) / 2 < 64 ∨ (s.limit - s.large - (2 + r + w)) / 2 < s.used) → R (.tuple #[.int .u64 0, .int .i64 31]) h := fun hf => by
      have e : s.block2 k r w = (s, 0, 31) := by unfold RS.block2; rw [if_pos hc, if_pos hf]
      rw [e] at hR
      exact hR h M gg r0 (Chg.refl _ _)
    refine PtrOk_mk ⟨((s.limit : Nat) : Int), r0.c0, PtrOk_mk ⟨((s.large : Nat) : Int), (r0.c 3).trans rfl, ?_⟩⟩
    have e1 : IntKind.wrap .i64 (((s.limit : Nat) : Int) - ((s.large : Nat) : Int)) = ((s.limit : Nat) : Int) - ((s.large : Nat) : Int) := wrap_ar (by omega) (by omega)
    have e2 : IntKind.wrap .i64 (((s.limit : Nat) : Int) - ((s.large : Nat) : Int) - ((2 + r + w : Nat) : Int)) = ((s.limit : Nat) : Int) - ((s.large : Nat) : Int) - ((2 + r + w : Nat) : Int) := wrap_ar (by omega) (by omega)
    rw [e1, e2]
    refine Cond_dec (fun d1 => full (.inl (by omega))) fun d1 => PtrOk_mk ⟨((s.limit : Nat) : Int), r0.c0, PtrOk_mk ⟨((s.large : Nat) : Int), (r0.c 3).trans rfl, by omega, ?_⟩⟩
    rw [e1, e2, tdiv2 (by omega) (by omega)]
    have up : Int.tdiv (((s.limit : Nat) : Int) - ((s.large : Nat) : Int) - ((2 + r + w : Nat) : Int)) 2 = (((s.limit - s.large - (2 + r + w)) / 2 : Nat) : Int) := by rw [Int.tdiv_eq_ediv_of_nonneg (by omega)]; omega
    rw [up]
    refine Cond_dec (fun d2 => ?_) fun d2 => PtrOk_mk ⟨((s.used : Nat) : Int), (r0.c 2).trans rfl, ?_⟩
    · unfold f88K2; exact Cond_t rfl (full (.inr (.inl (by omega))))
    · by_cases d3 : (((s.limit - s.large - (2 + r + w)) / 2 : Nat) : Int) < ((s.used : Nat) : Int)
      · rw [decide_eq_true d3]
        unfold f88K2; exact Cond_t rfl (full (.inr (.inr (by omega))))
      · rw [decide_eq_false d3]
        unfold f88K2
        have e4 : s.block2 k r w = ((s.become ((s.limit - s.large - (2 + r + w)) / 2)).addBig k r w, top + RS.freeSlot (s.become ((s.limit - s.large - (2 + r + w)) / 2)).slots, 0) := by
          unfold RS.block2
          rw [if_pos hc, if_neg (by omega), (s.become_fields _).2.2.2.2.1]
        rw [e4] at hR
        obtain ⟨b1, b2, b3, b4, b5, b6, b7, b8, b9⟩ := s.become_fields ((s.limit - s.large - (2 + r + w)) / 2)
        have v7 := v.become (n := (s.limit - s.large - (2 + r + w)) / 2) (by omega) (by omega) (by omega)
        refine Cond_f rfl (rbecome_ok r0 fun h7 M7 r7 c7 => ⟨rfl, ?_⟩)
        exact rblock_tail r7 v7 (by rw [b7]; exact hol) h3 h4 fun h8 M8 g8 r8 c8 => hR h8 M8 g8 r8 (c7.trans c8)
  · have hc : ¬ s.limit < 2 * s.half + s.large + (2 + r + w) := by omega
    have e : s.block2 k r w = (s.addBig k r w, top + RS.freeSlot s.slots, 0) := by unfold RS.block2; rw [if_neg hc]
    rw [e] at hR
    exact rblock_tail r0 v hol h3 h4 hR
theorem collect_objs_len (s : RS) : s.collect.objs.length = s.objs.length := by
  show (s.collection.fit 0).objs.length = _
  rw [(s.collection.fit_fields 0).2.2.2.2.2.1, RS.collection_len]
theorem rblock_col (r0 : RT h rb M s gg) (v : s.Inv) (hol : s.objs.length ≤ 100000000) {k r w : Nat} (h3 : r ≤ 1048576) (h4 : w ≤ 1048576) {R : Value → Hp → Prop}
    (hR : ∀ h' M' g', RT h' rb M' (s.collect.block2 k r w).1 g' → Chg h M h' M' → R (.tuple #[uv (s.collect.block2 k r w).2.1, .int .i64 (s.collect.block2 k r w).2.2]) h') : f88K1 (some (ad rb)) (k : Nat) (r : Nat) (w : Nat) (2 + r + w : Nat) true h R := by
  unfold f88K1
  refine Cond_t rfl (rcollect_ok r0 v hol fun h1 M1 g1 r1 c1 => ⟨rfl, ?_⟩)
  have := rblock_rest r1 v.collect (by rw [collect_objs_len]; exact hol) h3 h4 (R := R) (fun h' M' g' r' c' => hR h' M' g' r' (c1.trans c')) (x := false) rfl
  unfold f88K1 at this
  exact this
theorem rblock_ok (r0 : RT h rb M s gg) (v : s.Inv) (hol : s.objs.length ≤ 100000000) {k r w : Nat} (h3 : r ≤ 1048576) (h4 : w ≤ 1048576) {R : Value → Hp → Prop}
    (hR : ∀ h' M' g', RT h' rb M' (s.block k r w).1 g' → Chg h M h' M' → R (.tuple #[uv (s.block k r w).2.1, .int .i64 (s.block k r w).2.2]) h') : CallTo Try.prog 88 #[.pointer (some (ad rb)), .int .i64 (k : Nat), .int .i64 (r : Nat), .int .i64 (w : Nat)] h R := by
  have i2 := v.h2; have i4 := v.l2; have i6 := v.h1; have i7 := v.u2; have i8 := v.sn; have i9 := v.kp
  refine f88F_ok ?_
  unfold f88F
  unfold RS.block RS.block1 at hR
  refine rsizeOf_ok h3 h4 ⟨_, rfl, PtrOk_mk ⟨((s.half : Nat) : Int), (r0.c 1).trans rfl, PtrOk_mk ⟨((s.large : Nat) : Int), (r0.c 3).trans rfl, PtrOk_mk ⟨((s.limit : Nat) : Int), r0.c0, ?_⟩⟩⟩⟩
  have eb : IntKind.wrap .i64 ((1 : Int) + ((1 + r + w : Nat) : Int)) = ((2 + r + w : Nat) : Int) := by rw [wrap_ar (by omega) (by omega)]; omega
  rw [eb, wrap_ar (x := (2 : Int) * ((s.half : Nat) : Int)) (by omega) (by omega), wrap_ar (x := (2 : Int) * ((s.half : Nat) : Int) + ((s.large : Nat) : Int)) (by omega) (by omega), wrap_ar (x := (2 : Int) * ((s.half : Nat) : Int) + ((s.large : Nat) : Int) + ((2 + r + w : Nat) : Int)) (by omega) (by omega)]
  refine Cond_dec (fun hd => ?_) fun hd => PtrOk_mk ⟨((s.since : Nat) : Int), (r0.c 4).trans rfl, PtrOk_mk ⟨((s.half : Nat) : Int), (r0.c 1).trans rfl, PtrOk_mk ⟨((s.kept : Nat) : Int), (r0.c 5).trans rfl, ?_⟩⟩⟩
  · rw [if_pos (by omega)] at hR
    exact rblock_col r0 v hol h3 h4 hR
  · rw [wrap_ar (x := ((s.since : Nat) : Int) + ((2 + r + w : Nat) : Int)) (by omega) (by omega), wrap_ar (x := ((s.half : Nat) : Int) + ((s.kept : Nat) : Int)) (by omega) (by omega)]
    by_cases he : ((s.since : Nat) : Int) + ((2 + r + w : Nat) : Int) > ((s.half : Nat) : Int) + ((s.kept : Nat) : Int)
    · rw [decide_eq_true he]
      rw [if_pos (by omega)] at hR
      exact rblock_col r0 v hol h3 h4 hR
    · rw [decide_eq_false he]
      rw [if_neg (by omega)] at hR
      exact rblock_rest r0 v hol h3 h4 hR rfl
/-- A small object behind the others. -/
theorem rsmall_tail (r0 : RT h rb M s gg) (v : s.Inv) (hol : s.objs.length ≤ 100000000) {k r w : Nat} (h3 : r ≤ 1048576) (h4 : w ≤ 1048576) (h5 : 1 + r + w ≤ 64) {R : Value → Hp → Prop}
    (hR : ∀ h' M' g', RT h' rb M' (s.small2 k r w).1 g' → Chg h M h' M' → R (.tuple #[uv (s.small2 k r w).2.1, .int .i64 (s.small2 k r w).2.2]) h') :
    PtrOk (some (ad rb)) fun p63 => ∃ t65 : Int, cell h (p63.add 2) = some (.int .i64 t65) ∧ PtrOk (some (ad rb)) fun p69 => ∃ t71 : Int, cell h (p69.add 1) = some (.int .i64 t71) ∧ Cond (decide ((IntKind.wrap .i64 (t65 + ((1 + r + w : Nat) : Int))) > t71)) (R (.tuple #[.int .u64 0, .int .i64 31] : Value) h)
      (PtrOk (some (ad rb)) fun p75 => ∃ t77 : Sl, cell h (p75.add 7) = some (.slice t77.a t77.n t77.c) ∧ PtrOk (some (ad rb)) fun p79 => ∃ t81 : Sl, cell h (p79.add 6) = some (.slice t81.a t81.n t81.c) ∧ Let (h.push (.cells #[.int .i64 (((t81.n : Nat) : Int))] 3)) fun h5 => (∃ y0 : Sl, cell h5 (p75.add 7) = some (.slice y0.a y0.n y0.c) ∧ Next.value (.slice y0.a y0.n y0.c) = Next.value (.slice t77.a t77.n t77.c)) ∧ appSl 3 1 8 #[.int .i64 0] t77.a t77.n t77.c (some (nb h)) 1 h5 fun ra6 rn6 rc6 h6 => PtrOk (some (ad rb)) fun p85 => stOk h6 (p85.add 7) ∧ Let (setc h6 (p85.add 7) (.slice ra6 rn6 rc6)) fun h7 => PtrOk (some (ad rb)) fun p92 => ∃ t94 : Int, cell h7 (p92.add 2) = some (.int .i64 t94) ∧ CallTo Try.prog 91 #[.pointer (some (ad rb)), .int .i64 (k : Nat), .int .i64 (r : Nat), .int .i64 (w : Nat), .bool false, .int .i64 t94] h7 fun r' h8 => ∃ t95 : Int, r' = .int .u64 t95 ∧ PtrOk (some (ad rb)) fun p98 => ∃ t100 : Int, cell h8 (p98.add 2) = some (.int .i64 t100) ∧ PtrOk (some (ad rb)) fun p103 => stOk h8 (p103.add 2) ∧ Let (setc h8 (p103.add 2) (.int .i64 (IntKind.wrap .i64 (t100 + ((1 + r + w : Nat) : Int))))) fun h9 => R (.tuple #[.int .u64 t95, .int .i64 0] : Value) h9) := by
  have i2 := v.h2; have i4 := v.l2; have i6 := v.h1; have i7 := v.u2; have i1 := v.u1
  have hsl := s.small_len
  have hob := v.ob
  have hon := r0.os_n
  refine PtrOk_mk ⟨((s.used : Nat) : Int), (r0.c 2).trans rfl, PtrOk_mk ⟨((s.half : Nat) : Int), (r0.c 1).trans rfl, ?_⟩⟩
  rw [wrap_ar (x := ((s.used : Nat) : Int) + ((1 + r + w : Nat) : Int)) (by omega) (by omega)]
  refine Cond_dec (fun hc => ?_) fun hc => ?_
  · have e : s.small2 k r w = (s, 0, 31) := by unfold RS.small2; rw [if_pos (by omega)]
    rw [e] at hR
    exact hR h M gg r0 (Chg.refl _ _)
  · have e : s.small2 k r w = (s.addSmall k r w, s.used, 0) := by unfold RS.small2; rw [if_neg (by omega)]
    rw [e] at hR
    refine PtrOk_mk ⟨gg.ss, (r0.c 7).trans rfl, PtrOk_mk ⟨gg.os, (r0.c 6).trans rfl, Let_mk fun h1 e1 => ?_⟩⟩
    have k1 : Kept N h h1 := e1 ▸ kept_push _ _ _
    have r1 := r0.keep k1 fun _ _ e => e
    have row1 : Row h1 h.size [nv s.objs.length] := by
      rw [hon] at e1
      exact e1 ▸ row_new h #[nv s.objs.length] 3
    refine ⟨⟨gg.ss, (r1.c 7).trans rfl, rfl⟩, r1.ss_app s.objs.length row1 (by omega) fun h2 M2 g2 r2 c2 => PtrOk_mk ⟨((s.used : Nat) : Int), (r2.c 2).trans rfl, ?_⟩⟩
    refine rjoin_ok (big := false) (pl := s.used) r2 hol hob h3 h4 (by omega) fun h3 M3 g3 r3 c3 => ⟨_, rfl, PtrOk_mk ⟨((s.used : Nat) : Int), (r3.c 2).trans rfl, PtrOk_mk ?_⟩⟩
    have ev : IntKind.wrap .i64 (((s.used : Nat) : Int) + ((1 + r + w : Nat) : Int)) = ((s.used + (1 + r + w) : Nat) : Int) := by rw [wrap_ar (by omega) (by omega)]; omega
    rw [ev]
    refine r3.num (i := 2) (s' := s.addSmall k r w) (add_ad _ _) (by omega) rfl rfl rfl rfl rfl fun h4 M4 r4 c4 => ?_
    exact hR h4 M4 g3 r4 ((((Chg.of_kept k1).trans c2).trans c3).trans c4)
theorem ralloc_ok (r0 : RT h rb M s gg) (v : s.Inv) (hol : s.objs.length ≤ 100000000) {k r w : Int} {R : Value → Hp → Prop}
    (hR : ∀ h' M' g', RT h' rb M' (s.alloc k r w).1 g' → Chg h M h' M' → R (.tuple #[uv (s.alloc k r w).2.1, .int .i64 (s.alloc k r w).2.2]) h') : CallTo Try.prog 69 #[.pointer (some (ad rb)), .int .i64 k, .int .i64 r, .int .i64 w] h R := by
  have i2 := v.h2; have i4 := v.l2; have i6 := v.h1; have i7 := v.u2
  refine f69F_ok ?_
  unfold f69F
  have bad : ¬ Shape k r w → f69K1 (some (ad rb)) k r w true h R := fun hn => by
    have e : s.alloc k r w = (s, 0, 34) := by unfold RS.alloc; rw [if_neg hn]
    rw [e] at hR
    unfold f69K1
    exact Cond_t rfl (hR h M gg r0 (Chg.refl _ _))
  refine Cond_dec (fun c => bad fun q => by have := q.1.1; omega) fun c1 => Cond_dec (fun c => bad fun q => by have := q.1.2; omega) fun c2 => Cond_dec (fun c => bad fun q => by have := q.2.1.1; omega) fun c3 =>
    Cond_dec (fun c => bad fun q => by have := q.2.1.2; omega) fun c4 => Cond_dec (fun c => bad fun q => by have := q.2.2.1; omega) fun c5 => ?_
  by_cases c6 : w > 1048576
  · rw [decide_eq_true c6]; exact bad fun q => by have := q.2.2.2; omega
  rw [decide_eq_false c6]
  have hsh : Shape k r w := ⟨⟨by omega, by omega⟩, ⟨by omega, by omega⟩, by omega, by omega⟩
  obtain ⟨k, rfl⟩ := Int.eq_ofNat_of_zero_le (show 0 ≤ k by omega)
  obtain ⟨r, rfl⟩ := Int.eq_ofNat_of_zero_le (show 0 ≤ r by omega)
  obtain ⟨w, rfl⟩ := Int.eq_ofNat_of_zero_le (show 0 ≤ w by omega)
  unfold f69K1
  have ea : s.alloc (k : Int) (r : Int) (w : Int) = if 64 < 1 + r + w then s.block k r w else (s.small1 (1 + r + w)).small2 k r w := by
    unfold RS.alloc
    rw [if_pos hsh]
    rfl
  rw [ea] at hR
  refine Cond_f rfl (rsizeOf_ok (by omega) (by omega) ⟨_, rfl, Cond_dec (fun hl => ?_) fun hl => ?_⟩)
  · rw [if_pos (by omega)] at hR
    exact rblock_ok r0 v hol (by omega) (by omega) fun h' M' g' r' c' => ⟨_, _, rfl, hR h' M' g' r' c'⟩
  · rw [if_neg (by omega)] at hR
    refine PtrOk_mk ⟨((s.used : Nat) : Int), (r0.c 2).trans rfl, PtrOk_mk ⟨((s.half : Nat) : Int), (r0.c 1).trans rfl, ?_⟩⟩
    rw [wrap_ar (x := ((s.used : Nat) : Int) + ((1 + r + w : Nat) : Int)) (by omega) (by omega)]
    unfold RS.small1 at hR
    refine Cond_dec (fun hc => ?_) fun hc => ?_
    · rw [if_pos (by omega)] at hR
      refine rcollection_ok r0 v hol fun h1 M1 g1 r1 c1 => ⟨rfl, rfit_ok r1 v.collection (by omega) fun h2 M2 r2 c2 => ⟨rfl, ?_⟩⟩
      refine rsmall_tail r2 v.collection.fit ?_ (by omega) (by omega) (by omega) fun h' M' g' r' c' => hR h' M' g' r' ((c1.trans c2).trans c')
      rw [(s.collection.fit_fields _).2.2.2.2.2.1, RS.collection_len]; exact hol
    · rw [if_neg (by omega)] at hR
      have := rsmall_tail r0 v hol (by omega) (by omega) (by omega) hR
      exact this
theorem rnew_ok {n : Int} {h : Hp} {R : Value → Hp → Prop} (hbad : ¬ (128 ≤ n ∧ n ≤ 1048576) → R (.tuple #[.pointer none, .int .i64 30]) h)
    (hgood : ∀ h' rb M g, 128 ≤ n ∧ n ≤ 1048576 → RT h' rb M (RS.new n.toNat) g → (∀ b, M.own b → h.size ≤ b) → Kept N h h' → R (.tuple #[.pointer (some (ad rb)), .int .i64 0]) h') : CallTo Try.prog 68 #[.int .i64 n] h R := by
  refine f68F_ok ?_
  unfold f68F
  have bad : ¬ (128 ≤ n ∧ n ≤ 1048576) → f68K1 n true h R := fun c => by unfold f68K1; exact Cond_t rfl (hbad c)
  refine Cond_dec (fun c => bad (by omega)) fun c1 => ?_
  by_cases c2 : n > 1048576
  · rw [decide_eq_true c2]; exact bad (by omega)
  rw [decide_eq_false c2]
  unfold f68K1
  obtain ⟨n, rfl⟩ := Int.eq_ofNat_of_zero_le (show 0 ≤ n by omega)
  let X0 : Mem := ⟨fun _ => none, fun _ => []⟩
  have s0 : Sep h X0 := ⟨nofun, nofun⟩
  have ow0 : ∀ b, ¬ X0.own b := fun b ⟨x, hx⟩ => by cases hx
  refine Cond_f rfl (Let_mk fun h1 e1 => ?_)
  obtain ⟨p1, d1⟩ := s0.push 0 #[.int .i64 (n : Nat), .int .i64 64, .int .i64 1, .int .i64 0, .int .i64 0, .int .i64 0, .slice none 0 0, .slice none 0 0, .slice none 0 0, .slice none 0 0, .int .i64 0, .int .i64 0, .int .i64 0] 137
  rw [← e1] at p1 d1
  have enb : nb h = ad h.size := rfl
  rw [enb]
  let s00 : RS := { RS.new n with objs := [] }
  have r1 : RT h1 h.size (X0.upd 0 (some h.size) #[.int .i64 (n : Nat), .int .i64 64, .int .i64 1, .int .i64 0, .int .i64 0, .int .i64 0, .slice none 0 0, .slice none 0 0, .slice none 0 0, .slice none 0 0, .int .i64 0, .int .i64 0, .int .i64 0].toList) s00 ⟨[], ⟨none, 0, 0⟩, ⟨none, 0, 0⟩, ⟨none, 0, 0⟩, ⟨none, 0, 0⟩⟩ := by
    refine ⟨p1, Mem.loc_self .., ⟨Mem.cont_self .., rfl, ?_, ?_, ?_, ?_, fun i o go h1 => by simp [s00] at h1⟩⟩
    all_goals exact ⟨by simp [s00, RS.new], fun _ => ⟨rfl, rfl, rfl⟩, fun b e => by rw [Mem.loc_ne _ _ _ (by omega)] at e; cases e⟩
  refine ⟨⟨none, 0, 0⟩, (r1.c 6).trans rfl, ?_⟩
  refine r1.rep.ob.app1 r1.sep rfl rfl (fun v hv => by
    have hv : v ∈ [Value.int .i64 0, .slice none 0 0, .slice none 0 0, .bool false, .bool false, .int .i64 0] := hv
    simp only [List.mem_cons, List.not_mem_nil, or_false] at hv
    rcases hv with rfl | rfl | rfl | rfl | rfl | rfl <;> rfl) (by show (2 * (0 + 1) + 768) * 72 ≤ 2 ^ 48; omega) (by show 0 + 1 < 2 ^ 62; omega) fun a' c' h3 ob c sp sl ch => ?_
  have l0 : ((X0.upd 0 (some h.size) #[.int .i64 (n : Nat), .int .i64 64, .int .i64 1, .int .i64 0, .int .i64 0, .int .i64 0, .slice none 0 0, .slice none 0 0, .slice none 0 0, .slice none 0 0, .int .i64 0, .int .i64 0, .int .i64 0].toList).upd 1 ob c).loc 0 = some h.size := by rw [Mem.loc_ne _ _ _ (by omega)]; exact r1.loc
  have c0 : ((X0.upd 0 (some h.size) #[.int .i64 (n : Nat), .int .i64 64, .int .i64 1, .int .i64 0, .int .i64 0, .int .i64 0, .slice none 0 0, .slice none 0 0, .slice none 0 0, .slice none 0 0, .int .i64 0, .int .i64 0, .int .i64 0].toList).upd 1 ob c).cont 0 = rhd s00 ⟨[], ⟨none, 0, 0⟩, ⟨none, 0, 0⟩, ⟨none, 0, 0⟩, ⟨none, 0, 0⟩⟩ := by rw [Mem.cont_ne _ _ _ (by omega)]; exact r1.rep.hd
  refine sp.st l0 (add_ad _ _) (by rw [c0]; show 6 < 13; omega) fun h4 sp4 ch4 => ?_
  have chA := (d1.trans ch).trans ch4
  generalize hM3 : Mem.upd (Mem.upd (Mem.upd X0 0 _ _) 1 ob c) 0 _ _ = M3 at sp4 chA
  have hM : ∀ x, x ≠ 0 → x ≠ 1 → M3.loc x = none ∧ M3.cont x = [] := fun x e0 e1 => by
    rw [← hM3]
    rw [Mem.loc_ne _ _ _ e0, Mem.loc_ne _ _ _ e1, Mem.cont_ne _ _ _ e0, Mem.cont_ne _ _ _ e1, Mem.loc_ne _ _ _ e0, Mem.cont_ne _ _ _ e0]
    exact ⟨rfl, rfl⟩
  have nl : ∀ x, x ≠ 0 → x ≠ 1 → IsSl 1 M3 x ⟨none, 0, 0⟩ [] := fun x e0 e1 => ⟨by simp, fun _ => ⟨rfl, rfl, rfl⟩, fun b e => by rw [(hM x e0 e1).1] at e; cases e⟩
  refine hgood h4 h.size M3 ⟨[nilG], ⟨a', 0 + 1, c'⟩, ⟨none, 0, 0⟩, ⟨none, 0, 0⟩, ⟨none, 0, 0⟩⟩ ⟨by omega, by omega⟩ ⟨sp4, ?_, ⟨?_, rfl, ?_, nl 2 (by omega) (by omega), nl 3 (by omega) (by omega), nl 4 (by omega) (by omega), fun i o go h1 h2 => ?_⟩⟩ (fun b hb => (chA.2 b hb).resolve_left (ow0 b)) (chA.1.mono fun b _ e => ow0 b e)
  · rw [← hM3, Mem.loc_self]
  · rw [← hM3, Mem.cont_self, c0]; rfl
  · rw [← hM3]; exact IsSl.other sl (by omega)
  · have h1 : [RObj.no][i]? = some o := h1
    have h2 : [nilG][i]? = some go := h2
    cases i with
    | zero =>
      obtain rfl := Option.some.inj h1
      obtain rfl := Option.some.inj h2
      exact ⟨nl _ (by omega) (by omega), nl _ (by omega) (by omega)⟩
    | succ i => simp at h1
end
end Go.Ev
set_option linter.all false
set_option maxRecDepth 100000
namespace Go.Ev
open Go.Proofs
/-- A slice of one-cell elements that grows, in blocks that are not protected. -/
def Gro (hb : Hp) (F : Nat → Prop) (h : Hp) (sl : Sl) (vs : List Value) : Prop := ∃ ob, SlAt 1 h sl.a sl.n sl.c ob vs ∧ (∀ b, ob = some b → ¬ F b) ∧ hb.size ≤ h.size ∧ ∀ b, F b → h[b]? = hb[b]?
theorem Gro.app {hb h : Hp} {F : Nat → Prop} {sl : Sl} {vs : List Value} {e bys : Nat} {z : Array Value} {v : Value} {t : TypeId} {K : Option Addr → Nat → Nat → Hp → Prop} (g : Gro hb F h sl vs) (hF : ∀ b, F b → b < hb.size) (hz : z.size = 1) (hv : isCell v = true)
    (hby : (2 * (sl.n + 1) + 768) * bys ≤ 2 ^ 48) (hlt : sl.n + 1 < 2 ^ 62) (hK : ∀ a' c' h', Gro hb F h' ⟨a', sl.n + 1, c'⟩ (vs ++ [v]) → K a' (sl.n + 1) c' h') :
    Let (h.push (.cells #[v] t)) fun h2 => appSl e 1 bys z sl.a sl.n sl.c (some (nb h)) 1 h2 K := by
  obtain ⟨ob, s1, s2, s3, s4⟩ := g
  refine Let_mk fun h2 e2 => ?_
  have k2 : Kept N h h2 := e2 ▸ kept_push _ _ _
  have row2 : Row h2 h.size [v] := e2 ▸ row_new h #[v] t
  have s12 : SlAt 1 h2 sl.a sl.n sl.c ob vs := slat_kept' s1 k2 fun _ _ e => e
  refine ⟨[v], reads_row row2 (fun j v hj => by rw [Nat.zero_add]; exact hj), rfl, ?_⟩
  refine appT_ok2 s12 hz rfl (fun u hu => by rw [List.mem_singleton.1 hu]; exact hv) hby hlt fun a' c' ob' h3 s3' hcase => hK a' c' h3 ⟨ob', s3', fun b e => ?_, ?_, fun b hb' => ?_⟩
  · rcases hcase with ⟨q, _⟩ | ⟨q, _⟩
    · exact s2 b (q ▸ e)
    · rw [q] at e
      obtain rfl := Option.some.inj e
      intro hf
      have := hF _ hf; have := k2.1; omega
  · rcases hcase with ⟨_, q⟩ | ⟨_, q⟩ <;> exact Nat.le_trans s3 (Nat.le_trans k2.1 q.1)
  · have hlt2 : b < h2.size := by have := hF b hb'; have := k2.1; omega
    have e3 : h3[b]? = h2[b]? := by
      rcases hcase with ⟨_, q⟩ | ⟨_, q⟩
      · exact q.2 b hlt2 fun e => s2 b e hb'
      · exact q.2 b hlt2 fun e => e.elim
    rw [e3, k2.2 b (by have := hF b hb'; omega) id, s4 b hb']
section
variable {h h' : Hp} {rb : Nat} {M : Mem} {s : RS} {gg : RGeo}
theorem rhead_ok {k r w : Nat} (hk : k ≤ 255) (hr : r ≤ 1048576) (hw : w ≤ 1048576) {R : Value → Hp → Prop} (hR : R (uv (hdw k r w)) h) : CallTo Try.prog 105 #[.int .i64 (k : Nat), .int .i64 (r : Nat), .int .i64 (w : Nat)] h R := by
  refine f105F_ok ?_
  unfold f105F
  have b8 : (2 : Int) ^ (min (8 : Int).toNat (IntKind.bits .u64)) = ((256 : Nat) : Int) := rfl
  have b32 : (2 : Int) ^ (min (32 : Int).toNat (IntKind.bits .u64)) = ((4294967296 : Nat) : Int) := rfl
  refine ⟨by omega, by omega, ?_⟩
  rw [b8, b32, wrap_u64' (x := ((k : Nat) : Int)) (by omega) (by omega), wrap_u64' (x := ((r : Nat) : Int)) (by omega) (by omega), wrap_u64' (x := ((w : Nat) : Int)) (by omega) (by omega), wrap_u64' (x := ((r : Nat) : Int) * ((256 : Nat) : Int)) (by omega) (by omega),
    wrap_u64' (x := ((w : Nat) : Int) * ((4294967296 : Nat) : Int)) (by omega) (by omega), wrap_u64' (x := ((k : Nat) : Int) + ((r : Nat) : Int) * ((256 : Nat) : Int)) (by omega) (by omega), wrap_u64' (by omega) (by omega)]
  have e : ((k : Nat) : Int) + ((r : Nat) : Int) * ((256 : Nat) : Int) + ((w : Nat) : Int) * ((4294967296 : Nat) : Int) = ((hdw k r w : Nat) : Int) := by unfold hdw; omega
  rw [e]
  exact hR
theorem rstats_ok (r0 : RT h rb M s gg) (v : s.Inv) {R : Value → Hp → Prop} (hR : ∀ h', Kept N h h' → R (.agg (s.stats.map fun x => Value.int .i64 x).toArray) h') : CallTo Try.prog 75 #[.pointer (some (ad rb))] h R := by
  have i2 := v.h2; have i4 := v.l2; have i6 := v.h1; have i7 := v.u2; have i5 := v.sll; have hrl := v.rl
  refine f75F_ok ?_
  unfold f75F
  refine Let_mk fun h1 e1 => ?_
  have k1 : Kept N h h1 := e1 ▸ kept_push _ _ _
  have r1 := r0.keep k1 fun _ _ e => e
  have row1 : Row h1 h.size [zi, zi, zi, zi, zi, zi, zi, zi, zi] := e1 ▸ row_new h #[zi, zi, zi, zi, zi, zi, zi, zi, zi] 125
  have enb : nb h = ad h.size := rfl
  rw [enb]
  have c8 : cell h1 ((ad rb).add 8) = some (.slice gg.ls.a gg.ls.n gg.ls.c) := (r1.c 8).trans rfl
  have c9 : cell h1 ((ad rb).add 9) = some (.slice gg.ts.a gg.ts.n gg.ts.c) := (r1.c 9).trans rfl
  have hls := r1.ls_n
  have hts := r1.ts_n
  refine f75L1_rule (fun q s0 s2 s3 s4 h' => ∃ i : Nat, i ≤ s.slots.length ∧ q = s.slots.length - i ∧ s0 = some (ad rb) ∧ s2 = ad h.size ∧ s3 = ((slotsAt s i : Nat) : Int) ∧ s4 = (i : Int) ∧ h' = h1) s.slots.length ⟨0, Nat.zero_le _, rfl, rfl, rfl, rfl, rfl, rfl⟩ ?_
  rintro q s0 s2 s3 s4 g0 h2 ⟨i, hi, rfl, rfl, rfl, rfl, rfl, rfl⟩
  unfold f75L1
  refine PtrOk_mk ⟨gg.ls, c8, Cond_dec (fun hlt => ?_) fun hge => ?_⟩
  · have hlt : i < s.slots.length := by omega
    obtain ⟨x, hx⟩ : ∃ x, s.slots[i]? = some x := ⟨_, List.getElem?_eq_getElem hlt⟩
    obtain ⟨b, _, ha, hc, cb⟩ := sl_at r1.rep.sl r1.sep hx
    have hft := filter_take (fun x => decide (x ≠ 0)) hx
    have hft : slotsAt s (i + 1) = slotsAt s i + (if decide (x ≠ 0) = true then 1 else 0) := hft
    have hsl : slotsAt s i ≤ s.slots.length := Nat.le_trans (List.length_filter_le _ _) (by rw [List.length_take]; omega)
    have hwr : IntKind.wrap .i64 ((i : Int) + 1) = ((i + 1 : Nat) : Int) := by rw [wrap_ar (by omega) (by omega)]; rfl
    refine PtrOk_mk ⟨gg.ls, c8, cb, PtrOk_of ha ⟨((x : Nat) : Int), by rw [Int.toNat_natCast]; exact hc, ?_⟩⟩
    unfold f75K1
    refine Cond_dec (fun h0 => ⟨s.slots.length - (i + 1), by omega, i + 1, hlt, rfl, rfl, rfl, ?_, hwr, rfl⟩) fun h0 => ⟨s.slots.length - (i + 1), by omega, i + 1, hlt, rfl, rfl, rfl, ?_, hwr, rfl⟩
    · rw [hft, if_pos (by simp; omega), wrap_ar (by omega) (by omega)]; rfl
    · rw [hft, if_neg (by simp; omega)]; rfl
  have : i = s.slots.length := by omega
  subst this
  have hfin : slotsAt s s.slots.length = s.slotsN := by unfold slotsAt RS.slotsN; rw [List.take_length]
  rw [hfin]
  refine f75L2_rule (fun q s0 s2 s3 s5 s6 h' => ∃ i : Nat, i ≤ s.roots.length ∧ q = s.roots.length - i ∧ s0 = some (ad rb) ∧ s2 = ad h.size ∧ s3 = ((s.slotsN : Nat) : Int) ∧ s5 = ((((s.roots.take i).filter Option.isSome).length : Nat) : Int) ∧ s6 = (i : Int) ∧ h' = h2) s.roots.length
    ⟨0, Nat.zero_le _, rfl, rfl, rfl, rfl, rfl, rfl, rfl⟩ ?_
  rintro q s0 s2 s3 s5 s6 g0 h3 ⟨i, hi, rfl, rfl, rfl, rfl, rfl, rfl, rfl⟩
  unfold f75L2
  refine PtrOk_mk ⟨gg.ts, c9, Cond_dec (fun hlt => ?_) fun hge => ?_⟩
  · have hlt : i < s.roots.length := by omega
    obtain ⟨x, hx⟩ : ∃ x, s.roots[i]? = some x := ⟨_, List.getElem?_eq_getElem hlt⟩
    obtain ⟨b, _, ha, hc, cb⟩ := sl_at r1.rep.rt r1.sep hx
    have hft := filter_take Option.isSome hx
    have hsl : ((s.roots.take i).filter Option.isSome).length ≤ s.roots.length := Nat.le_trans (List.length_filter_le _ _) (by rw [List.length_take]; omega)
    have hwr : IntKind.wrap .i64 ((i : Int) + 1) = ((i + 1 : Nat) : Int) := by rw [wrap_ar (by omega) (by omega)]; rfl
    cases x with
    | none =>
      refine PtrOk_mk ⟨gg.ts, c9, cb, PtrOk_of ha ⟨-1, by rw [Int.toNat_natCast]; exact hc, Cond_f rfl ?_⟩⟩
      unfold f75K2
      exact ⟨s.roots.length - (i + 1), by omega, i + 1, hlt, rfl, rfl, rfl, rfl, by rw [hft]; rfl, hwr, rfl⟩
    | some y =>
      refine PtrOk_mk ⟨gg.ts, c9, cb, PtrOk_of ha ⟨(y : Int), by rw [Int.toNat_natCast]; exact hc, Cond_t (decide_eq_true (by omega)) ?_⟩⟩
      unfold f75K2
      exact ⟨s.roots.length - (i + 1), by omega, i + 1, hlt, rfl, rfl, rfl, rfl, by rw [hft, wrap_ar (by omega) (by omega)]; rfl, hwr, rfl⟩
  have : i = s.roots.length := by omega
  subst this
  rw [List.take_length]
  refine PtrOk_mk ⟨_, r1.c0, PtrOk_mk ⟨_, (r1.c 1).trans rfl, PtrOk_mk ⟨_, (r1.c 2).trans rfl, PtrOk_mk ⟨_, (r1.c 3).trans rfl, PtrOk_mk ⟨_, (r1.c 10).trans rfl, PtrOk_mk ⟨_, (r1.c 11).trans rfl, PtrOk_mk ⟨_, (r1.c 12).trans rfl, ?_⟩⟩⟩⟩⟩⟩⟩
  refine row_st row1 (i := 0) rfl (by show 0 < 9; omega) fun g1 w1 q1 => ?_
  refine row_st w1 (i := 1) (add_ad _ _) (by show 1 < 9; omega) fun g2 w2 q2 => ?_
  refine row_st w2 (i := 2) (add_ad _ _) (by show 2 < 9; omega) fun g3 w3 q3 => ?_
  refine row_st w3 (i := 3) (add_ad _ _) (by show 3 < 9; omega) fun g4 w4 q4 => ?_
  refine row_st w4 (i := 4) (add_ad _ _) (by show 4 < 9; omega) fun g5 w5 q5 => ?_
  refine row_st w5 (i := 5) (add_ad _ _) (by show 5 < 9; omega) fun g6 w6 q6 => ?_
  refine row_st w6 (i := 6) (add_ad _ _) (by show 6 < 9; omega) fun g7 w7 q7 => ?_
  refine row_st w7 (i := 7) (add_ad _ _) (by show 7 < 9; omega) fun g8 w8 q8 => ?_
  refine row_st w8 (i := 8) (add_ad _ _) (by show 8 < 9; omega) fun g9 w9 q9 => ?_
  refine ⟨_, (cell_row w9 0).trans rfl, _, (by rw [add_ad]; exact (cell_row w9 1).trans rfl), _, (by rw [add_ad]; exact (cell_row w9 2).trans rfl), _, (by rw [add_ad]; exact (cell_row w9 3).trans rfl), _, (by rw [add_ad]; exact (cell_row w9 4).trans rfl), _, (by rw [add_ad]; exact (cell_row w9 5).trans rfl),
    _, (by rw [add_ad]; exact (cell_row w9 6).trans rfl), _, (by rw [add_ad]; exact (cell_row w9 7).trans rfl), _, (by rw [add_ad]; exact (cell_row w9 8).trans rfl), ?_⟩
  have q := (((((((q1.trans q2).trans q3).trans q4).trans q5).trans q6).trans q7).trans q8).trans q9
  exact hR g9 (kept_news k1 q (Nat.le_refl _))
/-! ### Image -/
def locO (o : RObj) (go : RObjG) : List Value := [nv o.kind, slV go.rs, slV go.ws, .bool go.there, .bool o.big, nv o.pl]
theorem rimage_ok (r0 : RT h rb M s gg) (v : s.Inv) {R : Value → Hp → Prop} (hR : ∀ a c ob h', SlAt 1 h' a s.used c ob (s.image.map uv) → (∀ b, ob = some b → h.size ≤ b) → Kept N h h' → R (.slice a s.used c) h') : CallTo Try.prog 77 #[.pointer (some (ad rb))] h R := by
  have i2 := v.h2; have i4 := v.l2; have i6 := v.h1; have i7 := v.u2; have i5 := v.sll; have i1 := v.u1
  have hsl := s.small_len
  have husd : (s.image.map uv).length = s.used := by
    rw [List.length_map]
    show Go.Ev.used (s.small.map s.enc) = _
    rw [RS.used_map (fun id => s.enc_size id), v.u1]
  refine f77F_ok ?_
  unfold f77F
  refine Let_mk fun h1 e1 => ?_
  have k1 : Kept N h h1 := e1 ▸ kept_push _ _ _
  have row1 : Row h1 h.size [uv 0] := e1 ▸ row_new h #[uv 0] 30
  have g1 : Gro h (fun b => b < h.size) h1 ⟨some (nb h), 1, 1⟩ ((wordsOf ((s.small.take 0).map s.enc)).map uv) :=
    ⟨some h.size, ⟨rfl, nofun, fun b e => by obtain rfl := Option.some.inj e; exact ⟨rfl, Nat.le_refl _, [], row1, rfl⟩⟩, fun b e => by obtain rfl := Option.some.inj e; exact Nat.lt_irrefl _, k1.1, fun b hb => k1.2 b hb id⟩
  have rk : ∀ {h' : Hp} {F : Nat → Prop} {hb : Hp} {sl : Sl} {vs : List Value}, Gro hb F h' sl vs → h.size ≤ hb.size → (∀ b, b < h.size → F b ∧ hb[b]? = h[b]?) → RT h' rb M s gg := fun {h' F hb sl vs} g hs hF =>
    r0.keep (S := fun b => h.size ≤ b) ⟨by obtain ⟨_, _, _, q, _⟩ := g; omega, fun b hb' _ => by obtain ⟨_, _, _, _, q⟩ := g; rw [q b (hF b hb').1, (hF b hb').2]⟩ fun b hb' hs => by have := r0.sep.own_lt hb'; omega
  refine f77L1_rule (s3 := ⟨some (nb h), 1, 1⟩) (fun q s0 s3 s4 h' => ∃ i : Nat, i ≤ s.small.length ∧ q = s.small.length - i ∧ s0 = some (ad rb) ∧ s4 = (i : Int) ∧ Gro h (fun b => b < h.size) h' s3 ((wordsOf ((s.small.take i).map s.enc)).map uv)) s.small.length
    ⟨0, Nat.zero_le _, rfl, rfl, rfl, g1⟩ ?_
  rintro q s0 s3 s4 g0 h2 ⟨i, hi, rfl, rfl, rfl, g2⟩
  have r2 := rk g2 (Nat.le_refl _) fun b hb => ⟨hb, rfl⟩
  have hn3 : s3.n = 1 + s.sizes (s.small.take i) := by
    obtain ⟨_, q, _⟩ := g2
    have := q.len
    rw [List.length_map] at this
    have e : (wordsOf ((s.small.take i).map s.enc)).length = 1 + s.sizes (s.small.take i) := RS.used_map (fun id => s.enc_size id) _
    omega
  have hle := s.sizes_take s.small i
  unfold f77L1
  have c7 : cell h2 ((ad rb).add 7) = some (.slice gg.ss.a gg.ss.n gg.ss.c) := (r2.c 7).trans rfl
  have c6 : cell h2 ((ad rb).add 6) = some (.slice gg.os.a gg.os.n gg.os.c) := (r2.c 6).trans rfl
  have hss := r2.ss_n
  refine PtrOk_mk ⟨gg.ss, c7, Cond_dec (fun hlt => ?_) fun hge => ?_⟩
  · have hlt : i < s.small.length := by omega
    obtain ⟨x, hx⟩ : ∃ x, s.small[i]? = some x := ⟨_, List.getElem?_eq_getElem hlt⟩
    have hxh : s.here x := .inl (List.mem_of_getElem? hx)
    have hxl := v.here_lt hxh
    obtain ⟨hk1, hk2, hnr, hnw, _⟩ := v.shp x hxh
    obtain ⟨b, _, ha, hc, cb⟩ := sl_at r2.rep.sm r2.sep hx
    obtain ⟨ob, go, hob, hg, hoa, ocb, oc0, ocj, _, _⟩ := r2.obj hxl
    have hle1 := s.sizes_take s.small (i + 1)
    have hsn : s.sizes (s.small.take (i + 1)) = s.sizes (s.small.take i) + s.size x := by rw [RS.take_snoc hx, RS.sizes_snoc]
    have hsx : s.size x = 1 + (s.obj x).refs.length + (s.obj x).raws.length := rfl
    refine PtrOk_mk ⟨gg.os, c6, PtrOk_mk ⟨gg.ss, c7, cb, PtrOk_of ha ⟨((x : Nat) : Int), by rw [Int.toNat_natCast]; exact hc, ocb, PtrOk_of hoa ?_⟩⟩⟩
    rw [Int.toNat_natCast, Int.toNat_natCast]
    refine ⟨_, oc0, go.rs, (ocj 1 (by omega)).trans rfl, go.ws, (ocj 2 (by omega)).trans rfl, go.there, (ocj 3 (by omega)).trans rfl, (s.obj x).big, (ocj 4 (by omega)).trans rfl, _, (ocj 5 (by omega)).trans rfl, Let_mk fun h3 e3 => ?_⟩
    have k3 : Kept N h2 h3 := e3 ▸ kept_push _ _ _
    have row3 : Row h3 h2.size [zi, .slice none 0 0, .slice none 0 0, .bool false, .bool false, zi] := e3 ▸ row_new h2 #[zi, .slice none 0 0, .slice none 0 0, .bool false, .bool false, zi] 139
    have r3 := r2.keep k3 fun _ _ e => e
    obtain ⟨b', _, ha', hc', _⟩ := sl_at r3.rep.sm r3.sep hx
    obtain ⟨ob', go', hob', hg', hoa', ocb', oc0', ocj', _, _⟩ := r3.obj hxl
    rw [hg] at hg'
    obtain rfl := Option.some.inj hg'
    rw [ha] at ha'
    obtain rfl : b = b' := by simpa [ad] using ha'
    rw [hoa] at hoa'
    obtain rfl : ob = ob' := by simpa [ad] using hoa'
    refine ⟨⟨_, oc0', go.rs, (ocj' 1 (by omega)).trans rfl, go.ws, (ocj' 2 (by omega)).trans rfl, go.there, (ocj' 3 (by omega)).trans rfl, (s.obj x).big, (ocj' 4 (by omega)).trans rfl, _, (ocj' 5 (by omega)).trans rfl, rfl⟩,
      ⟨_, hc', rfl⟩, ⟨gg.ss, (r3.c 7).trans rfl, rfl⟩, ⟨gg.os, (r3.c 6).trans rfl, rfl⟩, ?_⟩
    have enb : nb h2 = ad h2.size := rfl
    rw [enb]
    refine row_st row3 (i := 0) rfl (by show 0 < 6; omega) fun a1 w1 q1 => ?_
    refine row_st w1 (i := 1) (add_ad _ _) (by show 1 < 6; omega) fun a2 w2 q2 => ?_
    refine row_st w2 (i := 2) (add_ad _ _) (by show 2 < 6; omega) fun a3 w3 q3 => ?_
    refine row_st w3 (i := 3) (add_ad _ _) (by show 3 < 6; omega) fun a4 w4 q4 => ?_
    refine row_st w4 (i := 4) (add_ad _ _) (by show 4 < 6; omega) fun a5 w5 q5 => ?_
    refine row_st w5 (i := 5) (add_ad _ _) (by show 5 < 6; omega) fun h8 w8 q6 => ?_
    have q := ((((q1.trans q2).trans q3).trans q4).trans q5).trans q6
    have q28 : Kept N h2 h8 := kept_news k3 q (Nat.le_refl _)
    have row8 : Row h8 h2.size (locO (s.obj x) go) := w8
    have cl : ∀ j, cell h8 ((ad h2.size).add j) = (locO (s.obj x) go)[j]? := fun j => by rw [add_ad]; exact cell_row row8 j
    refine ⟨_, (cell_row row8 0).trans rfl, go.rs, (cl 1).trans rfl, go.ws, (cl 2).trans rfl, ?_⟩
    have r8 := r2.keep q28 fun _ _ e => e
    have hrsn : go.rs.n = (s.obj x).refs.length := by
      obtain ⟨p1, _⟩ := r2.rep.rf x _ go (s.obj_get hxl) hg
      have := p1.len; rw [List.length_map] at this; omega
    have hwsn : go.ws.n = (s.obj x).raws.length := by
      obtain ⟨_, p1⟩ := r2.rep.rf x _ go (s.obj_get hxl) hg
      have := p1.len; rw [List.length_map] at this; omega
    rw [hrsn, hwsn]
    refine rhead_ok hk2 hnr hnw ⟨_, rfl, ?_⟩
    have hlt2 : h.size ≤ h2.size := by obtain ⟨_, _, _, p, _⟩ := g2; exact p
    have h28 := q28.1
    have hl8 : h2.size < h8.size := row_lt row8
    have F1lt : ∀ b, (b < h.size ∨ b = h2.size) → b < h8.size := fun b hb => by rcases hb with hb | hb <;> omega
    have old8 : ∀ b, b < h.size → h8[b]? = h[b]? := fun b hb => by
      obtain ⟨_, _, _, _, p⟩ := g2
      rw [q28.2 b (by omega) id, p b hb]
    have g8 : Gro h8 (fun b => b < h.size ∨ b = h2.size) h8 s3 ((wordsOf ((s.small.take i).map s.enc)).map uv) := by
      obtain ⟨obx, p1, p2, _, _⟩ := g2
      refine ⟨obx, slat_kept' p1 q28 fun _ _ e => e, fun b e hf => ?_, Nat.le_refl _, fun _ _ => rfl⟩
      rcases hf with hf | hf
      · exact p2 b e hf
      · have hbl : b < h2.size := by rw [e] at p1; exact p1.lt
        omega
    have hF1 : ∀ b, b < h.size → (b < h.size ∨ b = h2.size) ∧ h8[b]? = h[b]? := fun b hb => ⟨.inl hb, old8 b hb⟩
    refine g8.app (bys := 8) F1lt rfl rfl (by omega) (by omega) fun a' c' h9 g9 => ?_
    have row9 : ∀ {hh : Hp} {sl : Sl} {vs : List Value}, Gro h8 (fun b => b < h.size ∨ b = h2.size) hh sl vs → Row hh h2.size (locO (s.obj x) go) := fun {hh sl vs} g => by
      obtain ⟨_, _, _, _, p⟩ := g
      exact row_keep row8 (p h2.size (.inr rfl))
    refine f77L2_rule (J1 := fun q s0 s3 s4 h' => ∃ i : Nat, i ≤ s.small.length ∧ q = s.small.length - i ∧ s0 = some (ad rb) ∧ s4 = (i : Int) ∧ Gro h (fun b => b < h.size) h' s3 ((wordsOf ((s.small.take i).map s.enc)).map uv)) (n1 := s.small.length - i)
      (s3 := ⟨a', s3.n + 1, c'⟩) (fun q s0 s3' s4 s5 s6 h' => ∃ j : Nat, j ≤ (s.obj x).refs.length ∧ q = (s.obj x).refs.length - j ∧ s0 = some (ad rb) ∧ s4 = (i : Int) ∧ s5 = ad h2.size ∧ s6 = (j : Int) ∧ s3'.n = s3.n + 1 + j ∧
      Gro h8 (fun b => b < h.size ∨ b = h2.size) h' s3' ((wordsOf ((s.small.take i).map s.enc) ++ hdw (s.obj x).kind (s.obj x).refs.length (s.obj x).raws.length :: ((s.obj x).refs.take j).map s.ref).map uv)) (s.obj x).refs.length
      ⟨0, Nat.zero_le _, rfl, rfl, rfl, rfl, rfl, rfl, by rw [List.map_append]; exact g9⟩ ?_
    rintro q s0 s3' s4 s5 s6 g0 ha ⟨j, hj, rfl, rfl, rfl, rfl, rfl, hn3', ga⟩
    have ra := rk ga (by omega) hF1
    obtain ⟨p1, p2⟩ := ra.rep.rf x _ go (s.obj_get hxl) hg
    have rowa := row9 ga
    have ca : ∀ j, cell ha ((ad h2.size).add j) = (locO (s.obj x) go)[j]? := fun j => by rw [add_ad]; exact cell_row rowa j
    unfold f77L2
    refine ⟨go.rs, (ca 1).trans rfl, Cond_dec (fun hlt5 => ?_) fun hge5 => ?_⟩
    · have hjl : j < (s.obj x).refs.length := by omega
      obtain ⟨y, hy⟩ : ∃ y, (s.obj x).refs[j]? = some y := ⟨_, List.getElem?_eq_getElem hjl⟩
      obtain ⟨b2, _, ha2, hc2, cb2⟩ := sl_at p1 ra.sep hy
      have hwr : IntKind.wrap .i64 ((j : Int) + 1) = ((j + 1 : Nat) : Int) := by rw [wrap_ar (by omega) (by omega)]; rfl
      refine ⟨go.rs, (ca 1).trans rfl, cb2, PtrOk_of ha2 ⟨((y : Nat) : Int), by rw [Int.toNat_natCast]; exact hc2, rref_ok ra v (v.rf x hxh y (List.mem_of_getElem? hy)) ⟨_, rfl, ?_⟩⟩⟩
      refine ga.app (bys := 8) F1lt rfl rfl (by omega) (by omega) fun a'' c'' hb gb => ?_
      refine ⟨(s.obj x).refs.length - (j + 1), by omega, j + 1, hjl, rfl, rfl, rfl, rfl, hwr, by show s3'.n + 1 = _; omega, ?_⟩
      have e : (wordsOf ((s.small.take i).map s.enc) ++ hdw (s.obj x).kind (s.obj x).refs.length (s.obj x).raws.length :: ((s.obj x).refs.take (j + 1)).map s.ref).map uv = (wordsOf ((s.small.take i).map s.enc) ++ hdw (s.obj x).kind (s.obj x).refs.length (s.obj x).raws.length :: ((s.obj x).refs.take j).map s.ref).map uv ++ [uv (s.ref y)] := by
        rw [RS.take_snoc hy, List.map_append (l₁ := (s.obj x).refs.take j), List.map_append, List.map_append]
        simp
      rw [e]
      exact gb
    have : j = (s.obj x).refs.length := by omega
    subst this
    rw [List.take_length] at ga
    refine f77L3_rule (J1 := fun q s0 s3 s4 h' => ∃ i : Nat, i ≤ s.small.length ∧ q = s.small.length - i ∧ s0 = some (ad rb) ∧ s4 = (i : Int) ∧ Gro h (fun b => b < h.size) h' s3 ((wordsOf ((s.small.take i).map s.enc)).map uv)) (n1 := s.small.length - i)
      (s3 := s3') (fun q s0 s3' s4 s5 s6 h' => ∃ j : Nat, j ≤ (s.obj x).raws.length ∧ q = (s.obj x).raws.length - j ∧ s0 = some (ad rb) ∧ s4 = (i : Int) ∧ s5 = ad h2.size ∧ s6 = (j : Int) ∧ s3'.n = s3.n + 1 + (s.obj x).refs.length + j ∧
      Gro h8 (fun b => b < h.size ∨ b = h2.size) h' s3' ((wordsOf ((s.small.take i).map s.enc) ++ hdw (s.obj x).kind (s.obj x).refs.length (s.obj x).raws.length :: ((s.obj x).refs.map s.ref ++ (s.obj x).raws.take j)).map uv)) (s.obj x).raws.length
      ⟨0, Nat.zero_le _, rfl, rfl, rfl, rfl, rfl, hn3', by rw [List.take_zero, List.append_nil]; exact ga⟩ ?_
    rintro q s0 s3'' s4 s5 s7 g0 hb ⟨j, hj, rfl, rfl, rfl, rfl, rfl, hn3'', gb⟩
    have rb' := rk gb (by omega) hF1
    obtain ⟨p1, p2⟩ := rb'.rep.rf x _ go (s.obj_get hxl) hg
    have rowb := row9 gb
    have cb' : ∀ j, cell hb ((ad h2.size).add j) = (locO (s.obj x) go)[j]? := fun j => by rw [add_ad]; exact cell_row rowb j
    unfold f77L3
    refine ⟨go.ws, (cb' 2).trans rfl, Cond_dec (fun hlt5 => ?_) fun hge5 => ?_⟩
    · have hjl : j < (s.obj x).raws.length := by omega
      obtain ⟨y, hy⟩ : ∃ y, (s.obj x).raws[j]? = some y := ⟨_, List.getElem?_eq_getElem hjl⟩
      obtain ⟨b2, _, ha2, hc2, cb2⟩ := sl_at p2 rb'.sep hy
      have hwr : IntKind.wrap .i64 ((j : Int) + 1) = ((j + 1 : Nat) : Int) := by rw [wrap_ar (by omega) (by omega)]; rfl
      refine ⟨go.ws, (cb' 2).trans rfl, cb2, PtrOk_of ha2 ⟨((y : Nat) : Int), by rw [Int.toNat_natCast]; exact hc2, ?_⟩⟩
      refine gb.app (bys := 8) F1lt rfl rfl (by omega) (by omega) fun a'' c'' hc gc => ?_
      refine ⟨(s.obj x).raws.length - (j + 1), by omega, j + 1, hjl, rfl, rfl, rfl, rfl, hwr, by show s3''.n + 1 = _; omega, ?_⟩
      have e : (wordsOf ((s.small.take i).map s.enc) ++ hdw (s.obj x).kind (s.obj x).refs.length (s.obj x).raws.length :: ((s.obj x).refs.map s.ref ++ (s.obj x).raws.take (j + 1))).map uv = (wordsOf ((s.small.take i).map s.enc) ++ hdw (s.obj x).kind (s.obj x).refs.length (s.obj x).raws.length :: ((s.obj x).refs.map s.ref ++ (s.obj x).raws.take j)).map uv ++ [uv y] := by
        rw [RS.take_snoc hy]
        simp
      rw [e]
      exact gc
    have : j = (s.obj x).raws.length := by omega
    subst this
    rw [List.take_length] at gb
    have hwr : IntKind.wrap .i64 ((i : Int) + 1) = ((i + 1 : Nat) : Int) := by rw [wrap_ar (by omega) (by omega)]; rfl
    refine ⟨s.small.length - (i + 1), by omega, i + 1, hlt, rfl, rfl, hwr, ?_⟩
    have e : wordsOf ((s.small.take (i + 1)).map s.enc) = wordsOf ((s.small.take i).map s.enc) ++ hdw (s.obj x).kind (s.obj x).refs.length (s.obj x).raws.length :: ((s.obj x).refs.map s.ref ++ (s.obj x).raws) := by
      rw [RS.take_snoc hx, List.map_append]
      show wordsOf (_ ++ [s.enc x]) = _
      rw [wordsOf_snoc]
      have el : (s.enc x).refs.length = (s.obj x).refs.length := List.length_map ..
      show _ ++ (s.enc x).head :: (s.enc x).flds = _
      have : (s.enc x).head = hdw (s.obj x).kind (s.obj x).refs.length (s.obj x).raws.length := by
        show hdw (s.enc x).kind (s.enc x).refs.length (s.enc x).raws.length = _
        rw [el]; rfl
      rw [this]
      rfl
    rw [e]
    obtain ⟨obx, p1, p2, p3, p4⟩ := gb
    exact ⟨obx, p1, fun b e hf => p2 b e (.inl hf), by omega, fun b hb' => (p4 b (.inl hb')).trans (old8 b hb')⟩
  · have : i = s.small.length := by omega
    subst this
    rw [List.take_length] at g2 hn3
    obtain ⟨obx, p1, p2, p3, p4⟩ := g2
    have hn : s3.n = s.used := by rw [hn3, v.u1]
    rw [hn] at p1
    rw [hn]
    exact hR s3.a s3.c obx h2 p1 (fun b e => by have := p2 b e; omega) ⟨p3, fun b hb _ => p4 b hb⟩
end
end Go.Ev
