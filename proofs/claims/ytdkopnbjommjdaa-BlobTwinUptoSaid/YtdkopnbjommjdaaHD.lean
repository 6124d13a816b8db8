/- A collection of the words is the walk of the document's heap: the relation, step by step. No condition but the heap's own order. -/
import Derived.Test.YtdkopnbjommjdaaRS
set_option linter.all false
set_option maxRecDepth 100000
namespace Go.Ev
namespace RS
theorem placeIn_app_left {s : RS} : ∀ (l r : List Nat) (p id : Nat), id ∈ l → s.placeIn (l ++ r) p id = s.placeIn l p id
  | [], _, _, _, h => by cases h
  | x :: l, r, p, id, h => by
    show (if x = id then p else s.placeIn (l ++ r) (p + s.size x) id) = if x = id then p else s.placeIn l (p + s.size x) id
    split
    · rfl
    · rename_i hx
      exact placeIn_app_left l r _ id ((List.mem_cons.1 h).resolve_left fun e => hx e.symm)
theorem placeIn_snoc {s : RS} : ∀ (l : List Nat) (p id : Nat), id ∉ l → s.placeIn (l ++ [id]) p id = p + s.sizes l
  | [], p, id, _ => by show (if id = id then p else _) = _; rw [if_pos rfl]; rfl
  | x :: l, p, id, h => by
    show (if x = id then p else s.placeIn (l ++ [id]) (p + s.size x) id) = _
    rw [if_neg (fun e : x = id => h (e ▸ List.mem_cons_self ..)), placeIn_snoc l _ id fun e => h (List.mem_cons_of_mem _ e)]
    show _ = p + (s.size x + s.sizes l)
    omega
/-- The place of a list's i-th. -/
theorem placeIn_at {s : RS} : ∀ (l : List Nat) (p i id : Nat), l.Nodup → l[i]? = some id → s.placeIn l p id = p + s.sizes (l.take i)
  | [], _, _, _, _, h => by simp at h
  | x :: l, p, 0, id, _, h => by
    obtain rfl : x = id := by simpa using h
    show (if x = x then p else _) = _
    rw [if_pos rfl]; rfl
  | x :: l, p, i + 1, id, hn, h => by
    have h : l[i]? = some id := by simpa using h
    have hx : x ≠ id := fun e => (List.nodup_cons.1 hn).1 (e ▸ List.mem_of_getElem? h)
    show (if x = id then p else s.placeIn l (p + s.size x) id) = _
    rw [if_neg hx, placeIn_at l _ i id (List.nodup_cons.1 hn).2 h, List.take_succ_cons]
    show _ = p + (s.size x + s.sizes (l.take i))
    omega
def newRef (s : RS) (g : Gc) (id : Nat) : Nat := if id = 0 then 0 else if (s.obj id).big = true then top + (s.obj id).pl else s.placeIn g.copied 1 id
def encD (s : RS) (g : Gc) (d : Nat) (id : Nat) : AObj := ⟨(s.obj id).kind, ((s.obj id).refs.take d).map (s.newRef g) ++ ((s.obj id).refs.drop d).map s.ref, (s.obj id).raws, none⟩
def enc (s : RS) (id : Nat) : AObj := ⟨(s.obj id).kind, (s.obj id).refs.map s.ref, (s.obj id).raws, none⟩
theorem encD_zero (s : RS) (g : Gc) (id : Nat) : s.encD g 0 id = s.enc id := by simp [encD, enc]
theorem encD_size (s : RS) (g : Gc) (d id : Nat) : (s.encD g d id).size = s.size id := by
  rw [AObj.size_eq]
  unfold encD RS.size RObj.size
  simp only [List.length_append, List.length_map, List.length_take, List.length_drop]
  omega
theorem enc_size (s : RS) (id : Nat) : (s.enc id).size = s.size id := by rw [AObj.size_eq]; unfold enc RS.size RObj.size; simp
/-- The words in the midst of a collection: g: the walk; dn: how many refs of an object have been moved. -/
structure CRep (s : RS) (g : Gc) (dn : Nat → Nat) (m : MH) : Prop where
  half : m.half = s.small.map fun id => { s.enc id with fwd := if id ∈ g.copied then some (s.placeIn g.copied 1 id) else none }
  spare : m.spare = g.copied.map fun id => s.encD g (dn id) id
  blocks : m.blocks = s.slots.map fun id => if id = 0 then none else some (s.encD g (dn id) id)
  reached : m.reached = s.slots.map fun id => decide (id ∈ g.line)
  grey : m.grey = (g.line.drop g.b).map fun id => (s.obj id).pl
  dn0 : ∀ id, id ∉ g.copied → id ∉ g.line → dn id = 0
  dnr : ∀ id r, r ∈ ((s.obj id).refs.take (dn id)) → r = 0 ∨ r ∈ g.copied ∨ r ∈ g.line
  sz : m.sz = s.half

theorem used_map {s : RS} {f : Nat → AObj} (hf : ∀ id, (f id).size = s.size id) (l : List Nat) : Go.Ev.used (l.map f) = 1 + s.sizes l := by
  rw [used_eq, List.map_map]
  unfold RS.sizes
  congr 2
  exact List.map_congr_left fun id _ => hf id
theorem pos_map {s : RS} {f : Nat → AObj} (hf : ∀ id, (f id).size = s.size id) (l : List Nat) (i : Nat) : pos (l.map f) i = 1 + s.sizes (l.take i) := by
  unfold pos
  rw [← List.map_take, used_map hf]
theorem Inv.small_at {s : RS} (v : s.Inv) {id : Nat} (h : id ∈ s.small) : ∃ i, s.small[i]? = some id ∧ (s.obj id).pl = 1 + s.sizes (s.small.take i) := by
  obtain ⟨i, hi⟩ := List.mem_iff_getElem?.1 h
  exact ⟨i, hi, by rw [(v.sm id h).2.2.2.2, placeIn_at _ _ _ _ v.nds hi]⟩
/-- Where the words of the old half have the object. -/
theorem CRep.idx {s : RS} (v : s.Inv) {g : Gc} {dn : Nat → Nat} {m : MH} (c : CRep s g dn m) {id : Nat} (h : id ∈ s.small) : ∃ i, s.small[i]? = some id ∧ Go.Ev.idx m.half (s.obj id).pl = some i ∧
    m.half[i]? = some { s.enc id with fwd := if id ∈ g.copied then some (s.placeIn g.copied 1 id) else none } := by
  obtain ⟨i, hi, hp⟩ := v.small_at h
  have hsz : ∀ x, (({ s.enc x with fwd := if x ∈ g.copied then some (s.placeIn g.copied 1 x) else none } : AObj)).size = s.size x := fun x => s.enc_size x
  refine ⟨i, hi, ?_, ?_⟩
  · rw [idx_some, c.half]
    exact ⟨by rw [List.length_map]; exact (List.getElem?_eq_some_iff.1 hi).1, by rw [pos_map hsz, hp]⟩
  · rw [c.half, List.getElem?_map, hi]; rfl
theorem CRep.used_spare {s : RS} {g : Gc} {dn : Nat → Nat} {m : MH} (c : CRep s g dn m) : Go.Ev.used m.spare = 1 + s.sizes g.copied := by
  rw [c.spare]
  exact used_map (fun id => s.encD_size g (dn id) id) _
theorem ref_zero (s : RS) : s.ref 0 = 0 := by unfold RS.ref; rw [if_pos rfl]
theorem ref_big {s : RS} {id : Nat} (h0 : id ≠ 0) (hb : (s.obj id).big = true) : s.ref id = top + (s.obj id).pl := by unfold RS.ref; rw [if_neg h0, if_pos hb]
theorem ref_small {s : RS} {id : Nat} (h0 : id ≠ 0) (hb : (s.obj id).big = false) : s.ref id = (s.obj id).pl := by unfold RS.ref; rw [if_neg h0, if_neg (by rw [hb]; nofun)]
theorem newRef_keep {s : RS} (v : s.Inv) {g : Gc} {id r : Nat} (hr : r = 0 ∨ r ∈ g.copied ∨ r ∈ g.line) (hl : ∀ x ∈ g.line, x ≠ 0 ∧ x ∈ s.slots) : s.newRef (s.reach g id) r = s.newRef g r := by
  unfold newRef
  split
  · rfl
  · rename_i h0
    split
    · rfl
    · rename_i hb
      rcases hr with h | h | h
      · exact absurd h h0
      · obtain ⟨t, ht⟩ := (s.reach_pre g id).1
        rw [← ht]
        exact placeIn_app_left g.copied t 1 r h
      · obtain ⟨h1, h2⟩ := hl r h
        obtain ⟨k, hk⟩ := List.mem_iff_getElem?.1 h2
        exact absurd (v.sl k r hk h1).2.1 hb
theorem encD_keep {s : RS} (v : s.Inv) {g : Gc} {id d x : Nat} (hr : ∀ r ∈ (s.obj x).refs.take d, r = 0 ∨ r ∈ g.copied ∨ r ∈ g.line) (hl : ∀ x ∈ g.line, x ≠ 0 ∧ x ∈ s.slots) : s.encD (s.reach g id) d x = s.encD g d x := by
  unfold encD
  have : ((s.obj x).refs.take d).map (s.newRef (s.reach g id)) = ((s.obj x).refs.take d).map (s.newRef g) := List.map_congr_left fun r h => newRef_keep v (hr r h) hl
  rw [this]

theorem reach_in {s : RS} {g : Gc} {id : Nat} (h : id = 0 ∨ id ∈ g.copied ∨ id ∈ g.line) : s.reach g id = g := by unfold RS.reach; rw [if_pos h]
theorem reach_big {s : RS} {g : Gc} {id : Nat} (h : ¬ (id = 0 ∨ id ∈ g.copied ∨ id ∈ g.line)) (hb : (s.obj id).big = true) : s.reach g id = { g with line := g.line ++ [id] } := by unfold RS.reach; rw [if_neg h, if_pos hb]
theorem reach_small {s : RS} {g : Gc} {id : Nat} (h : ¬ (id = 0 ∨ id ∈ g.copied ∨ id ∈ g.line)) (hb : (s.obj id).big = false) : s.reach g id = { g with copied := g.copied ++ [id] } := by unfold RS.reach; rw [if_neg h, if_neg (by rw [hb]; nofun)]
theorem CRep.reachBig {s : RS} (v : s.Inv) {g : Gc} {dn : Nat → Nat} {m : MH} (c : CRep s g dn m) (k : GcOk s g) {id : Nat} (h0 : id ≠ 0) (hb : (s.obj id).big = true) (hs : id ∈ s.slots) :
    (mMoved m (s.ref id)).2 = s.newRef (s.reach g id) id ∧ CRep s (s.reach g id) dn (mMoved m (s.ref id)).1 := by
  obtain ⟨i, hi⟩ := List.mem_iff_getElem?.1 hs
  have hpl : (s.obj id).pl = i := (v.sl i id hi h0).2.2.2
  have hfl : m.reached.getD (s.obj id).pl false = decide (id ∈ g.line) := by
    rw [hpl, c.reached, List.getD_eq_getElem?_getD, List.getElem?_map, hi]; rfl
  have hnr : ∀ g', s.newRef g' id = top + (s.obj id).pl := fun g' => by unfold newRef; rw [if_neg h0, if_pos hb]
  rw [ref_big h0 hb, mMoved_slot, hfl, hnr]
  by_cases hl : id ∈ g.line
  · rw [if_pos (by simpa using hl), reach_in (.inr (.inr hl))]
    exact ⟨rfl, c⟩
  · have hc : id ∉ g.copied := fun h => by have := (v.sm id (k.cp id h)).2.2.1; rw [hb] at this; cases this
    rw [if_neg (by simpa using hl), reach_big (by simp [h0, hc, hl]) hb]
    refine ⟨rfl, ⟨c.half, c.spare, c.blocks, ?_, ?_, fun x h1 h2 => c.dn0 x h1 fun h => h2 (List.mem_append_left _ h), fun x r hr => (c.dnr x r hr).imp_right fun h => h.imp_right fun h => List.mem_append_left _ h, c.sz⟩⟩
    · show m.reached.set (s.obj id).pl true = _
      rw [hpl, c.reached]
      apply List.ext_getElem?
      intro j
      rw [List.getElem?_map]
      by_cases hj : j = i
      · subst hj
        rw [List.getElem?_set_self (by rw [List.length_map]; exact (List.getElem?_eq_some_iff.1 hi).1), hi]
        simp
      · rw [List.getElem?_set_ne (Ne.symm hj), List.getElem?_map]
        cases hx : s.slots[j]? with
        | none => rfl
        | some x =>
          have hne : x ≠ id := fun e => by
            subst e
            have := (v.sl j x hx h0).2.2.2
            omega
          simp [hne]
    · show m.grey ++ [(s.obj id).pl] = _
      rw [c.grey, List.drop_append_of_le_length k.b, List.map_append]
      rfl

theorem CRep.reachSmall {s : RS} (v : s.Inv) {g : Gc} {dn : Nat → Nat} {m : MH} (c : CRep s g dn m) (k : GcOk s g) {id : Nat} (hs : id ∈ s.small) :
    (mMoved m (s.ref id)).2 = s.newRef (s.reach g id) id ∧ CRep s (s.reach g id) dn (mMoved m (s.ref id)).1 := by
  obtain ⟨h1, h2, hb, h3, h4⟩ := v.sm id hs
  have h0 : id ≠ 0 := by omega
  obtain ⟨i, hi, hix, ho⟩ := c.idx v hs
  have hpp : 1 ≤ (s.obj id).pl ∧ (s.obj id).pl < top := by
    obtain ⟨j, hj, hp⟩ := v.small_at hs
    have hle : s.sizes (s.small.take j) ≤ s.sizes s.small := by
      unfold RS.sizes
      have : s.small = s.small.take j ++ s.small.drop j := (List.take_append_drop j _).symm
      conv => rhs; rw [this]
      rw [List.map_append, List.sum_append]
      omega
    have := v.u1; have := v.u2; have := v.h2; have := v.l2
    have ht : top = 9223372036854775808 := rfl
    omega
  have hnr : ∀ g', s.newRef g' id = s.placeIn g'.copied 1 id := fun g' => by unfold newRef; rw [if_neg h0, if_neg (by rw [hb]; nofun)]
  have hm : mMoved m (s.obj id).pl = if id ∈ g.copied then (m, s.placeIn g.copied 1 id) else
      ({ m with half := m.half.modify i fun o => { o with fwd := some (Go.Ev.used m.spare) }, spare := m.spare ++ [s.enc id] }, Go.Ev.used m.spare) := by
    unfold mMoved
    rw [if_neg (by omega), if_neg (by omega), hix]
    simp only [Option.bind_some, ho, Option.getD_some]
    by_cases hc : id ∈ g.copied
    · simp only [if_pos hc]
    · simp only [if_neg hc]
      rfl
  rw [ref_small h0 hb, hm, hnr]
  by_cases hc : id ∈ g.copied
  · rw [if_pos hc, reach_in (.inr (.inl hc))]
    exact ⟨rfl, c⟩
  · have hl : id ∉ g.line := fun h => by
      obtain ⟨_, h5⟩ := k.ln id h
      obtain ⟨j, hj⟩ := List.mem_iff_getElem?.1 h5
      have := (v.sl j id hj h0).2.1
      rw [hb] at this; cases this
    have hn : ¬ (id = 0 ∨ id ∈ g.copied ∨ id ∈ g.line) := by simp [h0, hc, hl]
    have hr := reach_small hn hb
    have hd : dn id = 0 := c.dn0 id hc hl
    have hk2 : ∀ x, s.encD (s.reach g id) (dn x) x = s.encD g (dn x) x := fun x => encD_keep v (fun r h => c.dnr x r h) k.ln
    rw [if_neg hc]
    rw [hr] at hk2 ⊢
    refine ⟨?_, ⟨?_, ?_, ?_, c.reached, c.grey, fun x q1 q2 => c.dn0 x (fun h => q1 (List.mem_append_left _ h)) q2, fun x r hr => (c.dnr x r hr).imp_right fun h => h.imp_left fun h => List.mem_append_left _ h, c.sz⟩⟩
    · show Go.Ev.used m.spare = s.placeIn (g.copied ++ [id]) 1 id
      rw [placeIn_snoc _ _ _ hc, c.used_spare]
    · show m.half.modify i _ = _
      rw [c.used_spare, c.half]
      apply List.ext_getElem?
      intro j
      rw [List.getElem?_modify, List.getElem?_map, List.getElem?_map]
      cases hxj : s.small[j]? with
      | none => rfl
      | some x =>
        show some _ = some _
        congr 1
        by_cases hj : i = j
        · subst hj
          rw [hi] at hxj
          obtain rfl := Option.some.inj hxj
          simp only [if_true]
          rw [if_pos (List.mem_append_right _ (List.mem_singleton.2 rfl)), placeIn_snoc _ _ _ hc]
        · have hne : x ≠ id := fun e => by
            subst e
            exact hj ((List.getElem?_inj (List.getElem?_eq_some_iff.1 hi).1 v.nds).1 (hi.trans hxj.symm))
          have q : (if x ∈ g.copied ++ [id] then some (s.placeIn (g.copied ++ [id]) 1 x) else none) = if x ∈ g.copied then some (s.placeIn g.copied 1 x) else none := by
            by_cases hxc : x ∈ g.copied
            · rw [if_pos hxc, if_pos (List.mem_append_left _ hxc), placeIn_app_left _ _ _ _ hxc]
            · rw [if_neg hxc, if_neg (by simp [hxc, hne])]
          simp only [if_neg hj, q]
    · show m.spare ++ [s.enc id] = (g.copied ++ [id]).map _
      rw [c.spare, List.map_append]
      congr 1
      · exact List.map_congr_left fun x _ => (hk2 x).symm
      · show [s.enc id] = [s.encD _ (dn id) id]
        rw [hk2, hd, encD_zero]
    · show m.blocks = _
      rw [c.blocks]
      exact List.map_congr_left fun x _ => by
        by_cases hx : x = 0
        · rw [if_pos hx, if_pos hx]
        · rw [if_neg hx, if_neg hx, hk2]

theorem sizes_le {s : RS} : ∀ (l m : List Nat), l.Nodup → (∀ x ∈ l, x ∈ m) → s.sizes l ≤ s.sizes m
  | [], _, _, _ => Nat.zero_le _
  | x :: l, m, hn, hs => by
    obtain ⟨a, b, rfl⟩ := List.append_of_mem (hs x (List.mem_cons_self ..))
    have h1 := sizes_le (s := s) l (a ++ b) (List.nodup_cons.1 hn).2 fun y hy => by
      have := hs y (List.mem_cons_of_mem _ hy)
      have hne : y ≠ x := fun e => (List.nodup_cons.1 hn).1 (e ▸ hy)
      simp only [List.mem_append, List.mem_cons] at this ⊢
      rcases this with h | h | h
      · exact .inl h
      · exact absurd h hne
      · exact .inr h
    unfold RS.sizes at h1 ⊢
    simp only [List.map_append, List.map_cons, List.sum_append, List.sum_cons] at h1 ⊢
    omega
theorem len_le : ∀ (l m : List Nat), l.Nodup → (∀ x ∈ l, x ∈ m) → l.length ≤ m.length
  | [], _, _, _ => Nat.zero_le _
  | x :: l, m, hn, hs => by
    obtain ⟨a, b, rfl⟩ := List.append_of_mem (hs x (List.mem_cons_self ..))
    have h1 := len_le l (a ++ b) (List.nodup_cons.1 hn).2 fun y hy => by
      have := hs y (List.mem_cons_of_mem _ hy)
      have hne : y ≠ x := fun e => (List.nodup_cons.1 hn).1 (e ▸ hy)
      simp only [List.mem_append, List.mem_cons] at this ⊢
      rcases this with h | h | h
      · exact .inl h
      · exact absurd h hne
      · exact .inr h
    simp only [List.length_append, List.length_cons] at h1 ⊢
    omega
theorem CRep.reachAny {s : RS} (v : s.Inv) {g : Gc} {dn : Nat → Nat} {m : MH} (c : CRep s g dn m) (k : GcOk s g) {id : Nat} (hid : id = 0 ∨ s.here id) :
    (mMoved m (s.ref id)).2 = s.newRef (s.reach g id) id ∧ CRep s (s.reach g id) dn (mMoved m (s.ref id)).1 := by
  by_cases h0 : id = 0
  · subst h0
    rw [ref_zero, mMoved_nil, reach_in (.inl rfl)]
    exact ⟨by unfold newRef; rw [if_pos rfl], c⟩
  · rcases v.big_of (hid.resolve_left h0) with ⟨hb, hs, _⟩ | ⟨_, hs⟩
    · exact c.reachBig v k h0 hb hs
    · exact c.reachSmall v k hs
theorem CRep.moveOk {s : RS} (v : s.Inv) {g : Gc} {dn : Nat → Nat} {m : MH} (c : CRep s g dn m) (k : GcOk s g) {id : Nat} (hid : id = 0 ∨ s.here id) : MoveOk m (s.ref id) := by
  have ht : top = 9223372036854775808 := rfl
  have hsl := v.sll
  have hnl : g.line.Nodup := (List.nodup_append.1 k.nd).2.1
  have hll := len_le g.line s.slots hnl fun x hx => (k.ln x hx).2
  refine ⟨?_, ?_⟩
  · rw [c.grey, List.length_map, List.length_drop]; omega
  by_cases h0 : id = 0
  · subst h0; exact .inl (ref_zero s)
  · rcases v.big_of (hid.resolve_left h0) with ⟨hb, hs, _⟩ | ⟨hb, hs⟩
    · obtain ⟨i, hi⟩ := List.mem_iff_getElem?.1 hs
      have hpl : (s.obj id).pl = i := (v.sl i id hi h0).2.2.2
      have hil := (List.getElem?_eq_some_iff.1 hi).1
      exact .inr (.inl ⟨(s.obj id).pl, ref_big h0 hb, by rw [c.reached, List.length_map]; omega, by omega⟩)
    · obtain ⟨i, hi, hix, ho⟩ := c.idx v hs
      obtain ⟨j, hj, hp⟩ := v.small_at hs
      have hle : s.sizes (s.small.take j) ≤ s.sizes s.small := sizes_le _ _ (v.nds.sublist (List.take_sublist j _)) fun x hx => List.mem_of_mem_take hx
      have := v.u1; have := v.u2; have := v.h2; have := v.l2
      refine .inr (.inr ⟨by rw [ref_small h0 hb]; omega, by rw [ref_small h0 hb]; omega, i, _, by rw [ref_small h0 hb]; exact hix, ho, fun hf => ?_⟩)
      have hc : id ∉ g.copied := fun h => by simp [h] at hf
      have hsz := sizes_le (s := s) (g.copied ++ [id]) s.small (by
        rw [List.nodup_append]
        refine ⟨(List.nodup_append.1 k.nd).1, by simp, ?_⟩
        intro x hx y hy e
        rw [List.mem_singleton.1 hy] at e
        exact hc (e ▸ hx)) fun x hx => by
          rcases List.mem_append.1 hx with hx | hx
          · exact k.cp x hx
          · rw [List.mem_singleton.1 hx]; exact hs
      have he : s.sizes (g.copied ++ [id]) = s.sizes g.copied + s.size id := by unfold RS.sizes; simp
      rw [c.used_spare, c.sz]
      have hos : (({ s.enc id with fwd := if id ∈ g.copied then some (s.placeIn g.copied 1 id) else none } : AObj)).size = s.size id := s.enc_size id
      rw [hos]
      omega
end RS
end Go.Ev
