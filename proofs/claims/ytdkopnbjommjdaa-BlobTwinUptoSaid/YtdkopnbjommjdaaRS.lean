/- The document's heap as plain data: objects by number, the walk in which they are reached, a collection. No theorem about the program; no condition. -/
import Derived.Test.YtdkopnbjommjdaaHL
set_option linter.all false
namespace Go.Ev
structure RObj where
  kind : Nat
  refs : List Nat
  raws : List Nat
  big : Bool
  pl : Nat
def RObj.no : RObj := ⟨0, [], [], false, 0⟩
def RObj.size (o : RObj) : Nat := 1 + o.refs.length + o.raws.length
structure RS where
  limit : Nat
  half : Nat
  used : Nat
  large : Nat
  since : Nat
  kept : Nat
  objs : List RObj
  small : List Nat
  slots : List Nat
  roots : List (Option Nat)
  coll : Int
  resz : Int
  moved : Nat

namespace RS
def obj (s : RS) (id : Nat) : RObj := s.objs.getD id RObj.no
def size (s : RS) (id : Nat) : Nat := (s.obj id).size
def ref (s : RS) (id : Nat) : Nat := if id = 0 then 0 else if (s.obj id).big = true then top + (s.obj id).pl else (s.obj id).pl
def ident (s : RS) (r : Nat) : Nat := if top ≤ r then s.slots.getD (r - top) 0 else if r = 0 then 0 else (s.small.find? fun i => (s.obj i).pl == r).getD 0
/-- Where an object of a list begins, if the list's objects lie one behind the other from p on. -/
def placeIn (s : RS) : List Nat → Nat → Nat → Nat
  | [], _, _ => 0
  | x :: r, p, id => if x = id then p else placeIn s r (p + s.size x) id
def sizes (s : RS) (l : List Nat) : Nat := (l.map s.size).sum
def here (s : RS) (id : Nat) : Prop := id ∈ s.small ∨ (id ≠ 0 ∧ id ∈ s.slots)
instance (s : RS) (id : Nat) : Decidable (s.here id) := inferInstanceAs (Decidable (_ ∨ _))
structure Inv (s : RS) : Prop where
  l1 : 128 ≤ s.limit
  l2 : s.limit ≤ 1048576
  h1 : 64 ≤ s.half
  h2 : 2 * s.half + s.large ≤ s.limit
  u1 : s.used = 1 + s.sizes s.small
  u2 : s.used ≤ s.half
  lg : s.large = (s.slots.map fun id => if id = 0 then 0 else s.size id + 1).sum
  sll : s.slots.length ≤ 1048576
  rl : s.roots.length ≤ 100000000
  nds : s.small.Nodup
  sm : ∀ id ∈ s.small, 0 < id ∧ id < s.objs.length ∧ (s.obj id).big = false ∧ s.size id ≤ 64 ∧ (s.obj id).pl = s.placeIn s.small 1 id
  sl : ∀ i id, s.slots[i]? = some id → id ≠ 0 → id < s.objs.length ∧ (s.obj id).big = true ∧ 64 < s.size id ∧ (s.obj id).pl = i
  rf : ∀ id, s.here id → ∀ r ∈ (s.obj id).refs, r = 0 ∨ s.here r
  rt : ∀ id, some id ∈ s.roots → id = 0 ∨ s.here id
  shp : ∀ id, s.here id → 1 ≤ (s.obj id).kind ∧ (s.obj id).kind ≤ 255 ∧ (s.obj id).refs.length ≤ 1048576 ∧ (s.obj id).raws.length ≤ 1048576 ∧ ∀ x ∈ (s.obj id).raws, x < 18446744073709551616
  ob : 1 ≤ s.objs.length
  kp : s.kept ≤ 1048576
  sn : s.since ≤ 2097152

/-! ### The walk -/
structure Gc where
  copied : List Nat
  line : List Nat
  a : Nat
  b : Nat
def reach (s : RS) (g : Gc) (id : Nat) : Gc :=
  if id = 0 ∨ id ∈ g.copied ∨ id ∈ g.line then g
  else if (s.obj id).big = true then { g with line := g.line ++ [id] } else { g with copied := g.copied ++ [id] }
def reachL (s : RS) (g : Gc) (ids : List Nat) : Gc := ids.foldl s.reach g
def gcStep (s : RS) (g : Gc) : Gc :=
  match g.copied[g.a]? with
  | some id => { s.reachL g (s.obj id).refs with a := g.a + 1 }
  | none => match g.line[g.b]? with
    | some id => { s.reachL g (s.obj id).refs with b := g.b + 1 }
    | none => g
def gc0 (s : RS) : Gc := s.reachL ⟨[], [], 0, 0⟩ (s.roots.filterMap id)
def gcAt (s : RS) : Nat → Gc
  | 0 => s.gc0
  | n + 1 => s.gcStep (s.gcAt n)
def gcEnd (s : RS) : Gc := s.gcAt s.objs.length
def collection (s : RS) : RS :=
  let g := s.gcEnd
  let large := (s.slots.map fun id => if id ∈ g.line then s.size id + 1 else 0).sum
  { s with
    used := 1 + s.sizes g.copied
    objs := s.objs.mapIdx fun id o => if id ∈ g.copied then { o with pl := s.placeIn g.copied 1 id } else if id ∈ g.line then o else if id = 0 then o else RObj.no
    small := g.copied
    slots := s.slots.map fun id => if id ∈ g.line then id else 0
    large := large
    since := 0
    kept := large
    coll := IntKind.wrap .i64 (s.coll + 1)
    moved := s.sizes g.copied }

/-! ### Facts of the walk -/
structure GcOk (s : RS) (g : Gc) : Prop where
  nd : (g.copied ++ g.line).Nodup
  cp : ∀ id ∈ g.copied, id ∈ s.small
  ln : ∀ id ∈ g.line, id ≠ 0 ∧ id ∈ s.slots
  a : g.a ≤ g.copied.length
  b : g.b ≤ g.line.length
theorem reach_ab (s : RS) (g : Gc) (id : Nat) : (s.reach g id).a = g.a ∧ (s.reach g id).b = g.b := by
  unfold reach
  split
  · exact ⟨rfl, rfl⟩
  · split <;> exact ⟨rfl, rfl⟩
theorem reach_pre (s : RS) (g : Gc) (id : Nat) : g.copied <+: (s.reach g id).copied ∧ g.line <+: (s.reach g id).line := by
  unfold reach
  split
  · exact ⟨List.prefix_refl _, List.prefix_refl _⟩
  · split
    · exact ⟨List.prefix_refl _, List.prefix_append _ _⟩
    · exact ⟨List.prefix_append _ _, List.prefix_refl _⟩
theorem reachL_ab (s : RS) : ∀ (ids : List Nat) (g : Gc), (s.reachL g ids).a = g.a ∧ (s.reachL g ids).b = g.b
  | [], _ => ⟨rfl, rfl⟩
  | id :: ids, g => by
    have h1 := reachL_ab s ids (s.reach g id)
    have h2 := reach_ab s g id
    exact ⟨h1.1.trans h2.1, h1.2.trans h2.2⟩
theorem reachL_pre (s : RS) : ∀ (ids : List Nat) (g : Gc), g.copied <+: (s.reachL g ids).copied ∧ g.line <+: (s.reachL g ids).line
  | [], _ => ⟨List.prefix_refl _, List.prefix_refl _⟩
  | id :: ids, g => by
    have h1 := reachL_pre s ids (s.reach g id)
    have h2 := reach_pre s g id
    exact ⟨h2.1.trans h1.1, h2.2.trans h1.2⟩
theorem Inv.big_of {s : RS} (i : s.Inv) {id : Nat} (h : s.here id) : ((s.obj id).big = true ∧ id ∈ s.slots ∧ id ≠ 0) ∨ ((s.obj id).big = false ∧ id ∈ s.small) := by
  rcases h with h | ⟨h0, h⟩
  · exact .inr ⟨(i.sm id h).2.2.1, h⟩
  · obtain ⟨k, hk⟩ := List.mem_iff_getElem?.1 h
    exact .inl ⟨(i.sl k id hk h0).2.1, h, h0⟩
theorem GcOk.reach {s : RS} (i : s.Inv) {g : Gc} (h : GcOk s g) {id : Nat} (hid : id = 0 ∨ s.here id) : GcOk s (s.reach g id) := by
  unfold RS.reach
  split
  · exact h
  · rename_i hn
    simp only [not_or] at hn
    obtain ⟨n0, n1, n2⟩ := hn
    have hh := hid.resolve_left n0
    split
    · rename_i hb
      rcases i.big_of hh with ⟨_, hs, _⟩ | ⟨hb', _⟩
      · refine ⟨?_, h.cp, ?_, h.a, ?_⟩
        · show (g.copied ++ (g.line ++ [id])).Nodup
          rw [← List.append_assoc, List.nodup_append]
          refine ⟨h.nd, by simp, ?_⟩
          intro x hx y hy
          rw [List.mem_singleton.1 hy]
          rcases List.mem_append.1 hx with hx | hx
          · intro e; subst e; exact n1 hx
          · intro e; subst e; exact n2 hx
        · intro x hx
          rcases List.mem_append.1 hx with hx | hx
          · exact h.ln x hx
          · rw [List.mem_singleton.1 hx]; exact ⟨n0, hs⟩
        · have := h.b; simp; omega
      · rw [hb] at hb'; cases hb'
    · rename_i hb
      rcases i.big_of hh with ⟨hb', _⟩ | ⟨_, hs⟩
      · exact absurd hb' hb
      · refine ⟨?_, ?_, h.ln, ?_, h.b⟩
        · show ((g.copied ++ [id]) ++ g.line).Nodup
          have hp : ((g.copied ++ [id]) ++ g.line).Perm ((g.copied ++ g.line) ++ [id]) := by
            rw [List.append_assoc, List.append_assoc]
            exact List.Perm.append_left _ List.perm_append_comm
          rw [hp.nodup_iff, List.nodup_append]
          refine ⟨h.nd, by simp, ?_⟩
          intro x hx y hy
          rw [List.mem_singleton.1 hy]
          rcases List.mem_append.1 hx with hx | hx
          · intro e; subst e; exact n1 hx
          · intro e; subst e; exact n2 hx
        · intro x hx
          rcases List.mem_append.1 hx with hx | hx
          · exact h.cp x hx
          · rw [List.mem_singleton.1 hx]; exact hs
        · have := h.a; simp; omega
theorem GcOk.reachL {s : RS} (i : s.Inv) : ∀ {ids : List Nat} {g : Gc}, GcOk s g → (∀ id ∈ ids, id = 0 ∨ s.here id) → GcOk s (s.reachL g ids)
  | [], _, h, _ => h
  | id :: ids, g, h, hids => GcOk.reachL (ids := ids) i (h.reach i (hids id (List.mem_cons_self ..))) fun x hx => hids x (List.mem_cons_of_mem _ hx)
theorem GcOk.here {s : RS} {g : Gc} (h : GcOk s g) {id : Nat} (hid : id ∈ g.copied ∨ id ∈ g.line) : s.here id := by
  rcases hid with hid | hid
  · exact .inl (h.cp id hid)
  · exact .inr (h.ln id hid)
theorem GcOk.withA {s : RS} {g : Gc} (h : GcOk s g) {n : Nat} (hn : n ≤ g.copied.length) : GcOk s { g with a := n } := ⟨h.nd, h.cp, h.ln, hn, h.b⟩
theorem GcOk.withB {s : RS} {g : Gc} (h : GcOk s g) {n : Nat} (hn : n ≤ g.line.length) : GcOk s { g with b := n } := ⟨h.nd, h.cp, h.ln, h.a, hn⟩
theorem GcOk.step {s : RS} (i : s.Inv) {g : Gc} (h : GcOk s g) : GcOk s (s.gcStep g) := by
  unfold gcStep
  split
  · rename_i id hid
    have hr := h.reachL i (ids := (s.obj id).refs) fun r hr => i.rf id (h.here (.inl (List.mem_of_getElem? hid))) r hr
    refine hr.withA ?_
    have h1 := (List.getElem?_eq_some_iff.1 hid).1
    have h2 := (s.reachL_pre (s.obj id).refs g).1.length_le
    omega
  · split
    · rename_i id hid
      have hr := h.reachL i (ids := (s.obj id).refs) fun r hr => i.rf id (h.here (.inr (List.mem_of_getElem? hid))) r hr
      refine hr.withB ?_
      have h1 := (List.getElem?_eq_some_iff.1 hid).1
      have h2 := (s.reachL_pre (s.obj id).refs g).2.length_le
      omega
    · exact h
theorem GcOk.zero {s : RS} (i : s.Inv) : GcOk s s.gc0 := by
  refine GcOk.reachL i ⟨by simp, nofun, nofun, Nat.le_refl _, Nat.le_refl _⟩ fun id hid => ?_
  obtain ⟨o, ho, e⟩ := List.mem_filterMap.1 hid
  have e : o = some id := e
  subst e
  exact i.rt id ho
theorem GcOk.at {s : RS} (i : s.Inv) : ∀ n, GcOk s (s.gcAt n)
  | 0 => GcOk.zero i
  | n + 1 => (GcOk.at i n).step i
end RS
end Go.Ev
