/- A collection of the document's heap: what its objects are behind it, and that the heap's own order is kept. No theorem about the program; no condition but that order. -/
import Derived.Test.YtdkopnbjommjdaaHG
set_option linter.all false
set_option maxRecDepth 100000
namespace Go.Ev
namespace RS
section
variable {s : RS}
theorem collection_small (s : RS) : s.collection.small = s.gcEnd.copied := rfl
theorem collection_slots (s : RS) : s.collection.slots = s.slots.map fun id => if id ∈ s.gcEnd.line then id else 0 := rfl
theorem collection_objs (s : RS) : s.collection.objs = s.objs.mapIdx fun id o => if id ∈ s.gcEnd.copied then { o with pl := s.placeIn s.gcEnd.copied 1 id } else if id ∈ s.gcEnd.line then o else if id = 0 then o else RObj.no := rfl
theorem collection_len (s : RS) : s.collection.objs.length = s.objs.length := by rw [collection_objs, List.length_mapIdx]
theorem Inv.here_lt (v : s.Inv) {id : Nat} (h : s.here id) : id < s.objs.length := by
  rcases h with h | ⟨h0, h⟩
  · exact (v.sm id h).2.1
  · obtain ⟨i, hi⟩ := List.mem_iff_getElem?.1 h
    exact (v.sl i id hi h0).1
theorem collection_obj (v : s.Inv) {id : Nat} (h : id ∈ s.gcEnd.copied ∨ id ∈ s.gcEnd.line) : s.collection.obj id = if id ∈ s.gcEnd.copied then { s.obj id with pl := s.placeIn s.gcEnd.copied 1 id } else if id ∈ s.gcEnd.line then s.obj id else RObj.no := by
  have k := GcOk.fin v
  have hl : id < s.objs.length := v.here_lt (k.here h)
  unfold obj
  rw [collection_objs, List.getD_eq_getElem?_getD, List.getElem?_mapIdx, List.getD_eq_getElem?_getD, List.getElem?_eq_getElem hl]
  by_cases h1 : id ∈ s.gcEnd.copied
  · simp only [h1, if_true]; rfl
  · have h2 := h.resolve_left h1
    simp only [h1, h2, if_true, if_false]; rfl
theorem not_both (v : s.Inv) {id : Nat} (h : id ∈ s.gcEnd.line) : id ∉ s.gcEnd.copied := fun h' => by
  have k := GcOk.fin v
  exact (List.nodup_append.1 k.nd).2.2 id h' id h rfl
theorem collection_copied (v : s.Inv) {id : Nat} (h : id ∈ s.gcEnd.copied) : s.collection.obj id = { s.obj id with pl := s.placeIn s.gcEnd.copied 1 id } := by rw [collection_obj v (.inl h), if_pos h]
theorem collection_line (v : s.Inv) {id : Nat} (h : id ∈ s.gcEnd.line) : s.collection.obj id = s.obj id := by rw [collection_obj v (.inr h), if_neg (not_both v h), if_pos h]
theorem collection_size (v : s.Inv) {id : Nat} (h : id ∈ s.gcEnd.copied ∨ id ∈ s.gcEnd.line) : s.collection.size id = s.size id := by
  unfold size
  rcases h with h | h
  · rw [collection_copied v h]; rfl
  · rw [collection_line v h]
theorem collection_kind (v : s.Inv) {id : Nat} (h : id ∈ s.gcEnd.copied ∨ id ∈ s.gcEnd.line) : (s.collection.obj id).kind = (s.obj id).kind ∧ (s.collection.obj id).refs = (s.obj id).refs ∧ (s.collection.obj id).raws = (s.obj id).raws ∧ (s.collection.obj id).big = (s.obj id).big := by
  rcases h with h | h
  · rw [collection_copied v h]; exact ⟨rfl, rfl, rfl, rfl⟩
  · rw [collection_line v h]; exact ⟨rfl, rfl, rfl, rfl⟩
theorem collection_ref (v : s.Inv) {id : Nat} (h : id = 0 ∨ id ∈ s.gcEnd.copied ∨ id ∈ s.gcEnd.line) : s.collection.ref id = s.newRef s.gcEnd id := by
  have k := GcOk.fin v
  unfold ref newRef
  by_cases h0 : id = 0
  · rw [if_pos h0, if_pos h0]
  · rw [if_neg h0, if_neg h0]
    rcases h.resolve_left h0 with h | h
    · have hb := (v.sm id (k.cp id h)).2.2.1
      rw [collection_copied v h]
      simp only [hb, Bool.false_eq_true, if_false]
    · obtain ⟨_, hs⟩ := k.ln id h
      obtain ⟨i, hi⟩ := List.mem_iff_getElem?.1 hs
      have hb := (v.sl i id hi h0).2.1
      rw [collection_line v h]
      simp only [hb, if_true]
theorem collection_enc (v : s.Inv) {id : Nat} (h : id ∈ s.gcEnd.copied ∨ id ∈ s.gcEnd.line) : s.collection.enc id = s.encD s.gcEnd (s.obj id).refs.length id := by
  obtain ⟨h1, h2, h3, h4⟩ := collection_kind v h
  unfold enc encD
  rw [h1, h2, h3, List.take_length, List.drop_length, List.map_nil, List.append_nil]
  congr 1
  exact List.map_congr_left fun r hr => collection_ref v (gcEnd_closed v h r hr)
theorem placeIn_congr {s t : RS} : ∀ (l : List Nat) (p id : Nat), (∀ x ∈ l, t.size x = s.size x) → t.placeIn l p id = s.placeIn l p id
  | [], _, _, _ => rfl
  | x :: l, p, id, h => by
    show (if x = id then p else t.placeIn l (p + t.size x) id) = if x = id then p else s.placeIn l (p + s.size x) id
    rw [h x (List.mem_cons_self ..), placeIn_congr l _ id fun y hy => h y (List.mem_cons_of_mem _ hy)]
theorem sizes_congr {s t : RS} {l : List Nat} (h : ∀ x ∈ l, t.size x = s.size x) : t.sizes l = s.sizes l := by
  unfold sizes
  rw [List.map_congr_left h]
theorem collection_slot (s : RS) {i id : Nat} (h : s.collection.slots[i]? = some id) (h0 : id ≠ 0) : s.slots[i]? = some id ∧ id ∈ s.gcEnd.line := by
  rw [collection_slots, List.getElem?_map] at h
  cases hx : s.slots[i]? with
  | none => rw [hx] at h; cases h
  | some x =>
    rw [hx] at h
    have h : (if x ∈ s.gcEnd.line then x else 0) = id := Option.some.inj h
    by_cases hl : x ∈ s.gcEnd.line
    · rw [if_pos hl] at h; subst h; exact ⟨rfl, hl⟩
    · rw [if_neg hl] at h; exact absurd h.symm h0
theorem collection_here (v : s.Inv) {id : Nat} : s.collection.here id ↔ id ∈ s.gcEnd.copied ∨ id ∈ s.gcEnd.line := by
  have k := GcOk.fin v
  constructor
  · rintro (h | ⟨h0, h⟩)
    · exact .inl h
    · obtain ⟨i, hi⟩ := List.mem_iff_getElem?.1 h
      exact .inr (s.collection_slot hi h0).2
  · rintro (h | h)
    · exact .inl h
    · obtain ⟨h0, hs⟩ := k.ln id h
      refine .inr ⟨h0, ?_⟩
      rw [collection_slots]
      exact List.mem_map.2 ⟨id, hs, by rw [if_pos h]⟩
theorem sum_le {α : Type} {f g : α → Nat} : ∀ {l : List α}, (∀ x ∈ l, f x ≤ g x) → (l.map f).sum ≤ (l.map g).sum
  | [], _ => Nat.le_refl _
  | x :: l, h => by
    have h1 := h x (List.mem_cons_self ..)
    have h2 := sum_le (l := l) fun y hy => h y (List.mem_cons_of_mem _ hy)
    simp only [List.map_cons, List.sum_cons]
    omega
theorem collection_large (v : s.Inv) : s.collection.large ≤ s.large := by
  have k := GcOk.fin v
  rw [v.lg]
  refine sum_le fun x hx => ?_
  by_cases h : x ∈ s.gcEnd.line
  · rw [if_pos h, if_neg (k.ln x h).1]; exact Nat.le_refl _
  · rw [if_neg h]; exact Nat.zero_le _
theorem collection_used (v : s.Inv) : s.collection.used ≤ s.used := by
  have k := GcOk.fin v
  rw [v.u1]
  show 1 + s.sizes s.gcEnd.copied ≤ _
  have := sizes_le (s := s) s.gcEnd.copied s.small (List.nodup_append.1 k.nd).1 k.cp
  omega
theorem Inv.collection (v : s.Inv) : s.collection.Inv := by
  have k := GcOk.fin v
  have hsz : ∀ x ∈ s.gcEnd.copied, s.collection.size x = s.size x := fun x hx => collection_size v (.inl hx)
  have hu := collection_used v
  have hlg := collection_large v
  have hnd := (List.nodup_append.1 k.nd).1
  have i1 := v.u2
  have i2 := v.h2
  refine ⟨v.l1, v.l2, v.h1, ?_, ?_, ?_, ?_, ?_, v.rl, hnd, ?_, ?_, ?_, ?_, ?_, by rw [collection_len]; exact v.ob, by have := v.l2; show s.collection.large ≤ 1048576; omega, Nat.zero_le _⟩
  · show 2 * s.half + s.collection.large ≤ s.limit; omega
  · show 1 + s.sizes s.gcEnd.copied = 1 + s.collection.sizes s.gcEnd.copied
    rw [sizes_congr hsz]
  · show s.collection.used ≤ s.half; omega
  · rw [collection_slots, List.map_map]
    show (s.slots.map _).sum = _
    congr 1
    refine List.map_congr_left fun x hx => ?_
    show _ = if (if x ∈ s.gcEnd.line then x else 0) = 0 then 0 else s.collection.size (if x ∈ s.gcEnd.line then x else 0) + 1
    by_cases h : x ∈ s.gcEnd.line
    · simp only [if_pos h]
      rw [if_neg (k.ln x h).1, collection_size v (.inr h)]
    · simp only [if_neg h, if_true]
  · rw [collection_slots, List.length_map]; exact v.sll
  · intro id hid
    obtain ⟨h1, h2, h3, h4, h5⟩ := v.sm id (k.cp id hid)
    refine ⟨h1, by rw [collection_len]; exact h2, by rw [(collection_kind v (.inl hid)).2.2.2]; exact h3, by rw [hsz id hid]; exact h4, ?_⟩
    rw [collection_copied v hid, collection_small, placeIn_congr _ _ _ hsz]
  · intro i id hi h0
    obtain ⟨h1, h2⟩ := s.collection_slot hi h0
    obtain ⟨h3, h4, h5, h6⟩ := v.sl i id h1 h0
    exact ⟨by rw [collection_len]; exact h3, by rw [collection_line v h2]; exact h4, by rw [collection_size v (.inr h2)]; exact h5, by rw [collection_line v h2]; exact h6⟩
  · intro id hid r hr
    rw [collection_here v] at hid
    rw [(collection_kind v hid).2.1] at hr
    exact (gcEnd_closed v hid r hr).imp_right (collection_here v).2
  · intro id hid
    exact (gcEnd_root (s := s) hid).imp_right (collection_here v).2
  · intro id hid
    rw [collection_here v] at hid
    obtain ⟨e1, e2, e3, _⟩ := collection_kind v hid
    rw [e1, e2, e3]
    exact v.shp id (k.here hid)
end
end RS
end Go.Ev
