/- The whole walk: it ends, it is closed, a collection keeps the heap's own order. No theorem about the program; no condition but that order. -/
import Derived.Test.YtdkopnbjommjdaaHF
set_option linter.all false
set_option maxRecDepth 100000
namespace Go.Ev
namespace RS
theorem reach_with (s : RS) (g : Gc) (id a b : Nat) : s.reach { g with a := a, b := b } id = { s.reach g id with a := a, b := b } := by
  by_cases h : id = 0 ∨ id ∈ g.copied ∨ id ∈ g.line
  · rw [reach_in h, reach_in (g := { g with a := a, b := b }) h]
  · cases hb : (s.obj id).big with
    | true => rw [reach_big h hb, reach_big (g := { g with a := a, b := b }) h hb]
    | false => rw [reach_small h hb, reach_small (g := { g with a := a, b := b }) h hb]
theorem reachL_with (s : RS) : ∀ (ids : List Nat) (g : Gc) (a b : Nat), s.reachL { g with a := a, b := b } ids = { s.reachL g ids with a := a, b := b }
  | [], _, _, _ => rfl
  | id :: ids, g, a, b => by
    show s.reachL (s.reach { g with a := a, b := b } id) ids = { s.reachL (s.reach g id) ids with a := a, b := b }
    rw [reach_with, reachL_with s ids]
theorem reachL_in {s : RS} : ∀ (ids : List Nat) (g : Gc), ∀ id ∈ ids, id = 0 ∨ id ∈ (s.reachL g ids).copied ∨ id ∈ (s.reachL g ids).line
  | [], _, _, h => by cases h
  | x :: ids, g, id, h => by
    show id = 0 ∨ id ∈ (s.reachL (s.reach g x) ids).copied ∨ id ∈ (s.reachL (s.reach g x) ids).line
    rcases List.mem_cons.1 h with rfl | h
    · have hp := s.reachL_pre ids (s.reach g id)
      exact (reach_mem (s := s) (g := g) (r := id)).imp_right fun h => h.imp (fun h => hp.1.subset h) fun h => hp.2.subset h
    · exact reachL_in ids (s.reach g x) id h
theorem newRef_pre {s : RS} (v : s.Inv) {g g' : Gc} (hp : g.copied <+: g'.copied) {r : Nat} (hr : r = 0 ∨ r ∈ g.copied ∨ r ∈ g.line) (hl : ∀ x ∈ g.line, x ≠ 0 ∧ x ∈ s.slots) : s.newRef g' r = s.newRef g r := by
  unfold newRef
  split
  · rfl
  · rename_i h0
    split
    · rfl
    · rename_i hb
      rcases hr with h | h | h
      · exact absurd h h0
      · obtain ⟨t, ht⟩ := hp
        rw [← ht]
        exact placeIn_app_left g.copied t 1 r h
      · obtain ⟨h1, h2⟩ := hl r h
        obtain ⟨k, hk⟩ := List.mem_iff_getElem?.1 h2
        exact absurd (v.sl k r hk h1).2.1 hb
theorem gcStep_pre (s : RS) (g : Gc) : g.copied <+: (s.gcStep g).copied ∧ g.line <+: (s.gcStep g).line := by
  unfold gcStep
  split
  · exact s.reachL_pre _ g
  · split
    · exact s.reachL_pre _ g
    · exact ⟨List.prefix_refl _, List.prefix_refl _⟩
theorem gcAt_pre (s : RS) (n : Nat) : ∀ k, (s.gcAt n).copied <+: (s.gcAt (n + k)).copied ∧ (s.gcAt n).line <+: (s.gcAt (n + k)).line
  | 0 => ⟨List.prefix_refl _, List.prefix_refl _⟩
  | k + 1 => by
    have h1 := gcAt_pre s n k
    have h2 := s.gcStep_pre (s.gcAt (n + k))
    exact ⟨h1.1.trans h2.1, h1.2.trans h2.2⟩
def Fin (g : Gc) : Prop := g.a = g.copied.length ∧ g.b = g.line.length
theorem Fin.step {s : RS} {g : Gc} (h : Fin g) : s.gcStep g = g := by
  unfold gcStep
  rw [h.1, List.getElem?_eq_none (Nat.le_refl _), h.2, List.getElem?_eq_none (Nat.le_refl _)]
theorem gcAt_stop {s : RS} {n : Nat} (h : Fin (s.gcAt n)) : ∀ k, s.gcAt (n + k) = s.gcAt n
  | 0 => rfl
  | k + 1 => by
    show s.gcStep (s.gcAt (n + k)) = _
    rw [gcAt_stop h k, h.step]
theorem GcOk.len {s : RS} (v : s.Inv) {g : Gc} (k : GcOk s g) : g.copied.length + g.line.length ≤ s.objs.length := by
  have := len_le (g.copied ++ g.line) (List.range s.objs.length) k.nd fun x hx => by
    rw [List.mem_range]
    rcases List.mem_append.1 hx with hx | hx
    · exact (v.sm x (k.cp x hx)).2.1
    · obtain ⟨h0, h1⟩ := k.ln x hx
      obtain ⟨i, hi⟩ := List.mem_iff_getElem?.1 h1
      exact (v.sl i x hi h0).1
  rwa [List.length_append, List.length_range] at this
theorem GcOk.len2 {s : RS} {g : Gc} (k : GcOk s g) : g.copied.length ≤ s.small.length ∧ g.line.length ≤ s.slots.length :=
  ⟨len_le _ _ (List.nodup_append.1 k.nd).1 k.cp, len_le _ _ (List.nodup_append.1 k.nd).2.1 fun x hx => (k.ln x hx).2⟩
theorem gcEnd_eq {s : RS} (v : s.Inv) {n : Nat} (h : Fin (s.gcAt n)) (hn : n = (s.gcAt n).a + (s.gcAt n).b) : s.gcEnd = s.gcAt n := by
  have h1 := GcOk.len v (GcOk.at v n)
  have h2 : n ≤ s.objs.length := by
    have := h.1; have := h.2; omega
  obtain ⟨k, hk⟩ := Nat.exists_eq_add_of_le h2
  unfold gcEnd
  rw [hk, gcAt_stop h]
theorem gc0_ab (s : RS) : s.gc0.a = 0 ∧ s.gc0.b = 0 := s.reachL_ab _ _
/-- Each step but the last ones counts one object. -/
theorem gcAt_ab {s : RS} (v : s.Inv) : ∀ n, Fin (s.gcAt n) ∨ (s.gcAt n).a + (s.gcAt n).b = n
  | 0 => .inr (by have := s.gc0_ab; show s.gc0.a + s.gc0.b = 0; omega)
  | n + 1 => by
    have k := GcOk.at v n
    rcases gcAt_ab v n with h | h
    · exact .inl (by show Fin (s.gcStep (s.gcAt n)); rw [h.step]; exact h)
    · show Fin (s.gcStep (s.gcAt n)) ∨ (s.gcStep (s.gcAt n)).a + (s.gcStep (s.gcAt n)).b = n + 1
      unfold gcStep
      split
      · refine .inr ?_
        have := (s.reachL_ab (s.obj ‹Nat›).refs (s.gcAt n)).2
        simp only [this]
        omega
      · rename_i h1
        split
        · refine .inr ?_
          have := (s.reachL_ab (s.obj ‹Nat›).refs (s.gcAt n)).1
          simp only [this]
          omega
        · rename_i h2
          have h1 := List.getElem?_eq_none_iff.1 h1
          have h2 := List.getElem?_eq_none_iff.1 h2
          exact .inl ⟨by have := k.a; omega, by have := k.b; omega⟩
theorem gcEnd_fin {s : RS} (v : s.Inv) : Fin s.gcEnd := by
  rcases gcAt_ab v s.objs.length with h | h
  · exact h
  · have k := GcOk.at v s.objs.length
    have := GcOk.len v k
    have := k.a
    have := k.b
    exact ⟨by show (s.gcAt _).a = (s.gcAt _).copied.length; omega, by show (s.gcAt _).b = (s.gcAt _).line.length; omega⟩
theorem GcOk.fin {s : RS} (v : s.Inv) : GcOk s s.gcEnd := GcOk.at v _
/-- What has been looked at leads to what has been reached. -/
def Closed (s : RS) (g : Gc) : Prop := ∀ id, id ∈ g.copied.take g.a ∨ id ∈ g.line.take g.b → ∀ r ∈ (s.obj id).refs, r = 0 ∨ r ∈ g.copied ∨ r ∈ g.line
theorem take_pre {α : Type} {l l' : List α} (h : l <+: l') {n : Nat} (hn : n ≤ l.length) : l'.take n = l.take n := by
  obtain ⟨t, rfl⟩ := h
  rw [List.take_append_of_le_length hn]
theorem take_snoc {α : Type} {l : List α} {n : Nat} {x : α} (h : l[n]? = some x) : l.take (n + 1) = l.take n ++ [x] := by rw [List.take_add_one, h]; rfl
theorem Closed.step {s : RS} {g : Gc} (k : GcOk s g) (c : Closed s g) : Closed s (s.gcStep g) := by
  have grow : ∀ (ids : List Nat) (r : Nat), r = 0 ∨ r ∈ g.copied ∨ r ∈ g.line → r = 0 ∨ r ∈ (s.reachL g ids).copied ∨ r ∈ (s.reachL g ids).line := fun ids r h => by
    have hp := s.reachL_pre ids g
    exact h.imp_right fun h => h.imp (fun h => hp.1.subset h) fun h => hp.2.subset h
  have ka := k.a
  have kb := k.b
  unfold gcStep
  split
  · rename_i id hid
    intro x hx r hr
    have hp := s.reachL_pre (s.obj id).refs g
    have hab := s.reachL_ab (s.obj id).refs g
    have hx : x ∈ (s.reachL g (s.obj id).refs).copied.take (g.a + 1) ∨ x ∈ (s.reachL g (s.obj id).refs).line.take (s.reachL g (s.obj id).refs).b := hx
    show r = 0 ∨ r ∈ (s.reachL g (s.obj id).refs).copied ∨ r ∈ (s.reachL g (s.obj id).refs).line
    have h1 := (List.getElem?_eq_some_iff.1 hid).1
    rw [take_pre hp.1 (by omega), take_snoc hid, hab.2, take_pre hp.2 kb] at hx
    rcases hx with hx | hx
    · rcases List.mem_append.1 hx with hx | hx
      · exact grow _ r (c x (.inl hx) r hr)
      · rw [List.mem_singleton.1 hx] at hr
        exact reachL_in _ g r hr
    · exact grow _ r (c x (.inr hx) r hr)
  · split
    · rename_i id hid
      intro x hx r hr
      have hp := s.reachL_pre (s.obj id).refs g
      have hab := s.reachL_ab (s.obj id).refs g
      have hx : x ∈ (s.reachL g (s.obj id).refs).copied.take (s.reachL g (s.obj id).refs).a ∨ x ∈ (s.reachL g (s.obj id).refs).line.take (g.b + 1) := hx
      show r = 0 ∨ r ∈ (s.reachL g (s.obj id).refs).copied ∨ r ∈ (s.reachL g (s.obj id).refs).line
      have h1 := (List.getElem?_eq_some_iff.1 hid).1
      rw [take_pre hp.2 (by omega), take_snoc hid, hab.1, take_pre hp.1 ka] at hx
      rcases hx with hx | hx
      · exact grow _ r (c x (.inl hx) r hr)
      · rcases List.mem_append.1 hx with hx | hx
        · exact grow _ r (c x (.inr hx) r hr)
        · rw [List.mem_singleton.1 hx] at hr
          exact reachL_in _ g r hr
    · exact c
theorem Closed.at {s : RS} (v : s.Inv) : ∀ n, Closed s (s.gcAt n)
  | 0 => by
    intro x hx
    have := s.gc0_ab
    have hx : x ∈ s.gc0.copied.take s.gc0.a ∨ x ∈ s.gc0.line.take s.gc0.b := hx
    rw [this.1, this.2] at hx
    simp at hx
  | n + 1 => (Closed.at v n).step (GcOk.at v n)
theorem gcEnd_closed {s : RS} (v : s.Inv) {id : Nat} (h : id ∈ s.gcEnd.copied ∨ id ∈ s.gcEnd.line) : ∀ r ∈ (s.obj id).refs, r = 0 ∨ r ∈ s.gcEnd.copied ∨ r ∈ s.gcEnd.line := by
  have f := gcEnd_fin v
  refine Closed.at v s.objs.length id ?_
  show id ∈ s.gcEnd.copied.take s.gcEnd.a ∨ id ∈ s.gcEnd.line.take s.gcEnd.b
  rw [f.1, f.2, List.take_length, List.take_length]
  exact h
theorem gcEnd_root {s : RS} {id : Nat} (h : some id ∈ s.roots) : id = 0 ∨ id ∈ s.gcEnd.copied ∨ id ∈ s.gcEnd.line := by
  have hp := s.gcAt_pre 0 s.objs.length
  rw [Nat.zero_add] at hp
  have := reachL_in (s := s) (s.roots.filterMap (fun x => x)) ⟨[], [], 0, 0⟩ id (List.mem_filterMap.2 ⟨_, h, rfl⟩)
  exact this.imp_right fun h => h.imp (fun h => hp.1.subset h) fun h => hp.2.subset h
end RS
end Go.Ev
