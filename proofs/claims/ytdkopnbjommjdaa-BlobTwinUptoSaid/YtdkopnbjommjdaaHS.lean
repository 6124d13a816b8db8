/- find and what goes through it: Object, Get, Set, Bytes, SetBytes: as the document's heap. No condition but that the heap is one. -/
import Derived.Test.YtdkopnbjommjdaaHQ
set_option linter.all false
set_option maxRecDepth 100000
namespace Go.Ev
open Go.Proofs
namespace RS
section
variable {s : RS}
theorem ident_top (s : RS) (k : Nat) : s.ident (top + k) = s.slots.getD k 0 := by
  unfold ident
  rw [if_pos (Nat.le_add_right top k), Nat.add_sub_cancel_left]
theorem ident_zero (s : RS) : s.ident 0 = 0 := by
  unfold ident
  rw [if_neg (by show ¬ 9223372036854775808 ≤ 0; omega), if_pos rfl]
theorem ident_low {r : Nat} (h0 : r ≠ 0) (h : r < top) : s.ident r = (s.small.find? fun i => (s.obj i).pl == r).getD 0 := by
  unfold ident
  rw [if_neg (by omega), if_neg h0]
theorem pl_inj (v : s.Inv) {a b : Nat} (ha : a ∈ s.small) (hb : b ∈ s.small) (h : (s.obj a).pl = (s.obj b).pl) : a = b := by
  obtain ⟨i, hi, hp⟩ := v.small_at ha
  obtain ⟨j, hj, hq⟩ := v.small_at hb
  rw [hp, hq] at h
  have e1 : pos (s.small.map s.enc) i = 1 + s.sizes (s.small.take i) := pos_map (fun id => s.enc_size id) _ _
  have e2 : pos (s.small.map s.enc) j = 1 + s.sizes (s.small.take j) := pos_map (fun id => s.enc_size id) _ _
  have hij : i = j := pos_inj (os := s.small.map s.enc) (by rw [List.length_map]; exact (List.getElem?_eq_some_iff.1 hi).1) (by rw [List.length_map]; exact (List.getElem?_eq_some_iff.1 hj).1) (by rw [e1, e2, h])
  subst hij
  rw [hi] at hj
  exact Option.some.inj hj
theorem ident_small (v : s.Inv) {id : Nat} (h : id ∈ s.small) : s.ident (s.obj id).pl = id := by
  have hp := pl_lt v (.inl h)
  obtain ⟨j, hj, hq⟩ := v.small_at h
  rw [ident_low (by omega) (by show _ < 9223372036854775808; omega)]
  cases hf : s.small.find? fun i => (s.obj i).pl == (s.obj id).pl with
  | none =>
    have := List.find?_eq_none.1 hf id h
    simp at this
  | some x =>
    have h1 := List.find?_some hf
    have h2 := List.mem_of_find?_eq_some hf
    exact pl_inj v h2 h (by simpa using h1)
theorem ident_slot (v : s.Inv) {id : Nat} (h0 : id ≠ 0) (h : id ∈ s.slots) : s.slots[(s.obj id).pl]? = some id ∧ s.ident (top + (s.obj id).pl) = id := by
  obtain ⟨i, hi⟩ := List.mem_iff_getElem?.1 h
  have hpl : (s.obj id).pl = i := (v.sl i id hi h0).2.2.2
  rw [hpl]
  exact ⟨hi, by rw [ident_top, List.getD_eq_getElem?_getD, hi]; rfl⟩
theorem ident_ref (v : s.Inv) {id : Nat} (h : id = 0 ∨ s.here id) : s.ident (s.ref id) = id := by
  by_cases h0 : id = 0
  · subst h0; rw [ref_zero, ident_zero]
  · rcases v.big_of (h.resolve_left h0) with ⟨hb, hs, _⟩ | ⟨hb, hs⟩
    · rw [ref_big h0 hb]; exact (ident_slot v h0 hs).2
    · rw [ref_small h0 hb]; exact ident_small v hs
/-- What is found is there, and its ref leads to it. -/
theorem ident_here (v : s.Inv) {r : Nat} (h : s.ident r ≠ 0) : s.here (s.ident r) ∧ s.ref (s.ident r) = r := by
  rcases Nat.lt_or_ge r top with hl | hg
  · by_cases h0 : r = 0
    · subst h0; exact absurd s.ident_zero h
    · rw [ident_low h0 hl] at h ⊢
      cases hf : s.small.find? fun i => (s.obj i).pl == r with
      | none => rw [hf] at h; exact absurd rfl h
      | some x =>
        have h1 := List.find?_some hf
        have h2 := List.mem_of_find?_eq_some hf
        obtain ⟨q0, _, q1, _⟩ := v.sm x h2
        exact ⟨.inl h2, by show s.ref x = r; rw [ref_small (by omega) q1]; simpa using h1⟩
  · obtain ⟨k, rfl⟩ := Nat.exists_eq_add_of_le hg
    rw [ident_top, List.getD_eq_getElem?_getD] at h ⊢
    cases hx : s.slots[k]? with
    | none => rw [hx] at h; exact absurd rfl h
    | some x =>
      rw [hx] at h
      have h : x ≠ 0 := h
      obtain ⟨_, q1, _, q2⟩ := v.sl k x hx h
      exact ⟨.inr ⟨h, List.mem_of_getElem? hx⟩, by show s.ref x = _; rw [ref_big h q1, q2]⟩
theorem ident_in (v : s.Inv) (r : Nat) : s.ident r = 0 ∨ s.here (s.ident r) := by
  by_cases h : s.ident r = 0
  · exact .inl h
  · exact .inr (ident_here v h).1
def setObj (s : RS) (id : Nat) (o : RObj) : RS := { s with objs := s.objs.set id o }
theorem setObj_obj (s : RS) {id : Nat} (o : RObj) (h : id < s.objs.length) (x : Nat) : (s.setObj id o).obj x = if x = id then o else s.obj x := by
  unfold setObj obj
  simp only
  rw [List.getD_eq_getElem?_getD, List.getD_eq_getElem?_getD]
  by_cases hx : x = id
  · subst hx; rw [List.getElem?_set_self h, if_pos rfl]; rfl
  · rw [List.getElem?_set_ne (Ne.symm hx), if_neg hx]
/-- Another object in the same place, of the same shape. -/
structure SameShape (a b : RObj) : Prop where
  kind : b.kind = a.kind
  refs : b.refs.length = a.refs.length
  raws : b.raws.length = a.raws.length
  big : b.big = a.big
  pl : b.pl = a.pl
section
variable {id : Nat} {o : RObj}
theorem setObj_shape (h : id < s.objs.length) (e : SameShape (s.obj id) o) (x : Nat) : SameShape (s.obj x) ((s.setObj id o).obj x) := by
  rw [setObj_obj s o h]
  by_cases hx : x = id
  · subst hx; rw [if_pos rfl]; exact e
  · rw [if_neg hx]; exact ⟨rfl, rfl, rfl, rfl, rfl⟩
theorem setObj_ref (h : id < s.objs.length) (e : SameShape (s.obj id) o) (x : Nat) : (s.setObj id o).ref x = s.ref x := by
  have q := setObj_shape h e x
  unfold ref
  rw [q.big, q.pl]
theorem setObj_size (h : id < s.objs.length) (e : SameShape (s.obj id) o) (x : Nat) : (s.setObj id o).size x = s.size x := by
  have q := setObj_shape h e x
  unfold size RObj.size
  rw [q.refs, q.raws]
theorem setObj_enc (h : id < s.objs.length) (e : SameShape (s.obj id) o) (x : Nat) : (s.setObj id o).enc x = if x = id then ⟨o.kind, o.refs.map s.ref, o.raws, none⟩ else s.enc x := by
  have hr : ((s.setObj id o).obj x).refs.map (s.setObj id o).ref = ((s.setObj id o).obj x).refs.map s.ref := List.map_congr_left fun y _ => setObj_ref h e y
  unfold enc
  rw [hr, setObj_obj s o h]
  by_cases hx : x = id
  · rw [if_pos hx, if_pos hx]
  · rw [if_neg hx, if_neg hx]
theorem setObj_here (x : Nat) : (s.setObj id o).here x ↔ s.here x := Iff.rfl
theorem Inv.setObj (v : s.Inv) (h : s.here id) (e : SameShape (s.obj id) o) (hr : ∀ r ∈ o.refs, r = 0 ∨ s.here r) (hw : ∀ x ∈ o.raws, x < 18446744073709551616) : (s.setObj id o).Inv := by
  have hl := v.here_lt h
  have esz := setObj_size (o := o) hl e
  have esh := setObj_shape (o := o) hl e
  have eo := setObj_obj s o hl
  refine ⟨v.l1, v.l2, v.h1, v.h2, ?_, v.u2, ?_, v.sll, v.rl, v.nds, ?_, ?_, ?_, v.rt, ?_, by show 1 ≤ (s.objs.set id o).length; rw [List.length_set]; exact v.ob, v.kp, v.sn⟩
  · show s.used = 1 + (s.setObj id o).sizes s.small
    rw [sizes_congr fun x _ => esz x]; exact v.u1
  · show s.large = (s.slots.map _).sum
    rw [v.lg]
    congr 1
    exact List.map_congr_left fun x _ => by rw [esz]
  · intro x hx
    show 0 < x ∧ x < (s.objs.set id o).length ∧ _ ∧ _ ∧ _ = (s.setObj id o).placeIn s.small 1 x
    rw [List.length_set, (esh x).big, esz, (esh x).pl, placeIn_congr _ _ _ fun y _ => esz y]
    exact v.sm x hx
  · intro i x hi h0
    show x < (s.objs.set id o).length ∧ _
    rw [List.length_set, (esh x).big, esz, (esh x).pl]
    exact v.sl i x hi h0
  · intro x hx r hr'
    rw [eo] at hr'
    by_cases hxi : x = id
    · rw [if_pos hxi] at hr'; exact hr r hr'
    · rw [if_neg hxi] at hr'; exact v.rf x hx r hr'
  · intro x hx
    obtain ⟨h1, h2, h3, h4, h5⟩ := v.shp x hx
    rw [(esh x).kind, (esh x).refs, (esh x).raws]
    refine ⟨h1, h2, h3, h4, fun y hy => ?_⟩
    rw [eo] at hy
    by_cases hxi : x = id
    · rw [if_pos hxi] at hy; exact hw y hy
    · rw [if_neg hxi] at hy; exact h5 y hy
end
end
end RS
section
variable {h h' : Hp} {hb : Nat} {role : Nat → Role} {m : MH} {G : Geo} {s : RS} {sp : List AObj} {id : Nat} {L : ArLoc} {sz : Nat} {os : List AObj} {i : Nat}
/-- Where an object's words lie. -/
def Plc (s : RS) (G : Geo) (id : Nat) (L : ArLoc) (sz : Nat) (os : List AObj) (i : Nat) : Prop :=
  (L = G.Lh ∧ sz = s.half ∧ os = s.small.map s.enc ∧ s.small[i]? = some id) ∨ (id ≠ 0 ∧ G.locs[(s.obj id).pl]? = some (some L) ∧ sz = s.size id + 1 ∧ os = [s.enc id] ∧ i = 0 ∧ s.slots[(s.obj id).pl]? = some id)
theorem Plc.get (p : Plc s G id L sz os i) : os[i]? = some (s.enc id) := by
  rcases p with ⟨_, _, rfl, h⟩ | ⟨_, _, _, rfl, rfl, _⟩
  · rw [List.getElem?_map, h]; rfl
  · rfl
theorem Plc.ar (p : Plc s G id L sz os i) (rp : HRep h hb role (s.words sp) G) : Ar h L sz os := by
  rcases p with ⟨rfl, rfl, rfl, _⟩ | ⟨h0, hL, rfl, rfl, rfl, hs⟩
  · exact rp.half
  · have hm : (s.words sp).blocks[(s.obj id).pl]? = some (some (s.enc id)) := by
      show (s.slots.map _)[(s.obj id).pl]? = _
      rw [List.getElem?_map, hs]; simp [h0]
    have := (rp.bl _ _ _ hm hL).1
    rwa [s.enc_size] at this
theorem Plc.apart (p : Plc s G id L sz os i) (rp : HRep h hb role (s.words sp) G) {b : Nat} (hb : role b = .out) : ¬ L.fp b := by
  rcases p with ⟨rfl, rfl, rfl, _⟩ | ⟨h0, hL, rfl, rfl, rfl, hs⟩
  · intro hf; have := rp.halfr b hf; rw [hb] at this; cases this
  · have hm : (s.words sp).blocks[(s.obj id).pl]? = some (some (s.enc id)) := by
      show (s.slots.map _)[(s.obj id).pl]? = _
      rw [List.getElem?_map, hs]; simp [h0]
    intro hf
    have := (rp.bl _ _ _ hm hL).2 b hf
    rw [hb] at this; cases this
/-- The object is another one of the same shape. -/
theorem Plc.put (p : Plc s G id L sz os i) (v : s.Inv) (rp : HRep h hb role (s.words sp) G) {o : RObj} (hh : s.here id) (e : RS.SameShape (s.obj id) o) (ha : Ar h' L sz (os.modify i fun _ => (s.setObj id o).enc id)) (k : Kept L.fp h h') :
    ∃ role' G', HRep h' hb role' ((s.setObj id o).words sp) G' ∧ ExtO h role h' role' := by
  have hl := v.here_lt hh
  have hen := RS.setObj_enc (o := o) hl e
  have ert : ∀ x, (s.setObj id o).rootW x = s.rootW x := fun x => by
    cases x with
    | none => rfl
    | some y => show (true, _) = (true, _); rw [RS.setObj_ref hl e]
  have er : s.roots.map (s.setObj id o).rootW = s.roots.map s.rootW := List.map_congr_left fun x _ => ert x
  rcases p with ⟨rfl, rfl, rfl, hi⟩ | ⟨h0, hL, rfl, rfl, rfl, hs⟩
  · have g : Grown h G.Lh G.Lh h' := ⟨rfl, fun _ => .inl, k⟩
    have hs : id ∈ s.small := List.mem_of_getElem? hi
    have r1 := rp.setHalf ha g
    refine ⟨joinR role h.size G.Lh.fp .half, G, ?_, ExtO.of (role := role) k (fun b hb => by rw [rp.halfr b hb]; nofun) fun b hb ho => (joinR_old hb).trans ho⟩
    have em : ({ s.words sp with half := (s.small.map s.enc).modify i fun _ => (s.setObj id o).enc id } : MH) = (s.setObj id o).words sp := by
      unfold RS.words
      simp only [MH.mk.injEq]
      refine ⟨rfl, rfl, ?_, rfl, trivial, ?_, rfl, trivial, rfl, rfl, rfl, er.symm, rfl, rfl, rfl, rfl⟩
      · apply List.ext_getElem?
        intro j
        rw [List.getElem?_modify, List.getElem?_map]
        show _ = (s.small.map (s.setObj id o).enc)[j]?
        rw [List.getElem?_map]
        cases hj : s.small[j]? with
        | none => rfl
        | some x =>
          show some (if i = j then _ else _) = some _
          by_cases hij : i = j
          · subst hij
            rw [hi] at hj
            obtain rfl := Option.some.inj hj
            rw [if_pos rfl]
          · have hne : x ≠ id := fun e => by
              subst e
              exact hij ((List.getElem?_inj (List.getElem?_eq_some_iff.1 hi).1 v.nds).1 (hi.trans hj.symm))
            rw [if_neg hij, hen, if_neg hne]
      · show _ = s.slots.map _
        refine List.map_congr_left fun x hx => ?_
        by_cases hx0 : x = 0
        · rw [if_pos hx0, if_pos hx0]
        · obtain ⟨j, hj⟩ := List.mem_iff_getElem?.1 hx
          rw [if_neg hx0, if_neg hx0, hen, if_neg (RS.big_ne_small v hs hj hx0)]
    rw [em] at r1
    exact r1
  · have hm : (s.words sp).blocks[(s.obj id).pl]? = some (some (s.enc id)) := by
      show (s.slots.map _)[(s.obj id).pl]? = _
      rw [List.getElem?_map, hs]; simp [h0]
    have hsz : ((s.setObj id o).enc id).size = (s.enc id).size := by rw [RS.enc_size, RS.enc_size]; exact RS.setObj_size hl e id
    have ha : Ar h' L ((s.enc id).size + 1) [(s.setObj id o).enc id] := by rw [s.enc_size]; exact ha
    have r1 := rp.setSlot hm hL hsz ha k
    refine ⟨role, G, ?_, ExtO.of (role := role) k (fun b hb => by rw [(rp.bl _ _ _ hm hL).2 b hb]; nofun) fun _ _ ho => ho⟩
    have em : ({ s.words sp with blocks := (s.words sp).blocks.set (s.obj id).pl (some ((s.setObj id o).enc id)) } : MH) = (s.setObj id o).words sp := by
      unfold RS.words
      simp only [MH.mk.injEq]
      have hb : (s.obj id).big = true := (v.sl _ id hs h0).2.1
      refine ⟨rfl, rfl, ?_, rfl, trivial, ?_, rfl, trivial, rfl, rfl, rfl, er.symm, rfl, rfl, rfl, rfl⟩
      · show _ = s.small.map _
        refine List.map_congr_left fun x hx => ?_
        rw [hen, if_neg fun e => by
          subst e
          have := (v.sm x hx).2.2.1
          rw [hb] at this; cases this]
      · apply List.ext_getElem?
        intro j
        show _ = (s.slots.map _)[j]?
        rw [List.getElem?_map]
        by_cases hj : j = (s.obj id).pl
        · subst hj
          rw [List.getElem?_set_self (by rw [List.length_map]; exact (List.getElem?_eq_some_iff.1 hs).1), hs]
          simp [h0]
        · rw [List.getElem?_set_ne (Ne.symm hj), List.getElem?_map]
          cases hx : s.slots[j]? with
          | none => rfl
          | some x =>
            show some _ = some _
            congr 1
            show (if x = 0 then none else some (s.enc x)) = (if x = 0 then none else some ((s.setObj id o).enc x))
            by_cases hx0 : x = 0
            · rw [if_pos hx0, if_pos hx0]
            · rw [if_neg hx0, if_neg hx0, hen, if_neg fun e => by
                subst e
                exact hj (v.sl j x hx h0).2.2.2.symm]
    rw [em] at r1
    exact r1
/-- find: nothing, or where the object lies. -/
theorem find_ok (v : s.Inv) (rp : HRep h hb role (s.words sp) G) {r : Nat} (hr : r < 18446744073709551616) {R : Value → Hp → Prop} (h0 : s.ident r = 0 → R (.tuple #[.nilIface, .int .i64 0, .bool false]) h)
    (h1 : ∀ L sz os i, s.ident r ≠ 0 → Plc s G (s.ident r) L sz os i → R (.tuple #[.iface 70 (.pointer (some (ad L.pb))), .int .i64 (pos os i : Nat), .bool true]) h) : CallTo Try.prog 59 #[.pointer (some (ad hb)), uv r] h R := by
  have ht : top = 9223372036854775808 := rfl
  have i5 := v.sll
  refine f59F_ok ?_
  unfold f59F
  rcases Nat.lt_or_ge r top with hl | hg
  · have hl : r < 9223372036854775808 := hl
    refine Cond_f (by rw [gone_no hl]; rfl) ?_
    by_cases hz : r = 0
    · subst hz
      refine Cond_t rfl ?_
      unfold f59K2
      exact Cond_t rfl (h0 s.ident_zero)
    refine Cond_f (by simp; omega) ?_
    have c1 : cell h ((ad hb).add 1) = some (.pointer (some (ad G.Lh.pb))) := (rp.c 1).trans rfl
    obtain ⟨wc, fc, fs, ra⟩ := rp.half
    have hu := RS.used_words v sp
    have i2 := v.u2; have i3 := v.h2; have i4 := v.l2
    refine PtrOk_mk ⟨_, c1, aused_ok ra ⟨_, rfl, ?_⟩⟩
    rw [hu, wrap_u64' (x := ((s.used : Nat) : Int)) (by omega) (by omega)]
    have none_of : idx (s.words sp).half r = none → s.ident r = 0 := fun hn => by
      by_cases hi : s.ident r = 0
      · exact hi
      · exfalso
        obtain ⟨q1, q2⟩ := RS.ident_here v hi
        rcases v.big_of q1 with ⟨hb', _, hne⟩ | ⟨hb', hs⟩
        · rw [RS.ref_big hne hb'] at q2; omega
        · obtain ⟨j, hj, hp⟩ := v.small_at hs
          rw [RS.ref_small hi hb'] at q2
          have e1 : pos (s.small.map s.enc) j = 1 + s.sizes (s.small.take j) := RS.pos_map (fun id => s.enc_size id) _ _
          have : idx (s.small.map s.enc) r = some j := idx_some.2 ⟨by rw [List.length_map]; exact (List.getElem?_eq_some_iff.1 hj).1, by rw [e1]; omega⟩
          have hn : idx (s.small.map s.enc) r = none := hn
          rw [hn] at this; cases this
    by_cases hge : s.used ≤ r
    · rw [show decide (((r : Nat) : Int) ≥ ((s.used : Nat) : Int)) = true from decide_eq_true (by omega)]
      unfold f59K2
      exact Cond_t rfl (h0 (none_of (idx_none_of_ge (by rw [hu]; exact hge))))
    · rw [show decide (((r : Nat) : Int) ≥ ((s.used : Nat) : Int)) = false from decide_eq_false (by omega)]
      unfold f59K2
      rw [wrap_i64' (x := ((r : Nat) : Int)) (by omega) (by omega)]
      refine Cond_f rfl (PtrOk_mk ⟨_, c1, aobject_ok ra ?_⟩)
      cases hi : idx (s.words sp).half r with
      | none =>
        have : objV (s.words sp).half ((r : Nat) : Int) = .tuple #[.int .i64 0, .int .i64 0, .int .i64 0, .int .i64 23] := by
          unfold objV; rw [idxI_nat, hi]; rfl
        rw [this]
        exact ⟨_, _, _, _, rfl, Cond_t rfl (h0 (none_of hi))⟩
      | some j =>
        obtain ⟨q1, q2⟩ := idx_some.1 hi
        have q1 : j < s.small.length := by have : j < (s.small.map s.enc).length := q1; rwa [List.length_map] at this
        obtain ⟨x, hx⟩ : ∃ x, s.small[j]? = some x := ⟨_, List.getElem?_eq_getElem q1⟩
        have hxs := List.mem_of_getElem? hx
        have hget : (s.words sp).half[j]? = some (s.enc x) := by show (s.small.map s.enc)[j]? = _; rw [List.getElem?_map, hx]; rfl
        have : objV (s.words sp).half ((r : Nat) : Int) = .tuple #[.int .i64 ((s.enc x).kind : Int), .int .i64 ((s.enc x).refs.length : Int), .int .i64 ((s.enc x).raws.length : Int), .int .i64 0] := by
          unfold objV; rw [idxI_nat, hi]; simp only [Option.bind_some, hget]; rfl
        rw [this]
        refine ⟨_, _, _, _, rfl, Cond_f rfl (PtrOk_mk ⟨_, c1, ?_⟩)⟩
        have e1 : pos (s.small.map s.enc) j = 1 + s.sizes (s.small.take j) := RS.pos_map (fun id => s.enc_size id) _ _
        have hpl : (s.obj x).pl = r := by
          have q2 : pos (s.small.map s.enc) j = r := q2
          rw [(v.sm x hxs).2.2.2.2, RS.placeIn_at _ _ _ _ v.nds hx, ← e1, q2]
        have hid : s.ident r = x := by rw [← hpl]; exact RS.ident_small v hxs
        have hx0 : x ≠ 0 := by have := (v.sm x hxs).1; omega
        have := h1 G.Lh s.half (s.small.map s.enc) j (by rw [hid]; exact hx0) (.inl ⟨rfl, rfl, rfl, by rw [hid]; exact hx⟩)
        have q2 : pos (s.small.map s.enc) j = r := q2
        rw [q2] at this
        exact this
  · obtain ⟨k, rfl⟩ := Nat.exists_eq_add_of_le hg
    rw [RS.ident_top] at h0 h1
    have hk : k < 9223372036854775808 := by omega
    have hn : andNotI .u64 ((top + k : Nat) : Int) (9223372036854775808 : Int) = (k : Int) := by rw [andNotI_gone (by omega) (by omega)]; omega
    refine Cond_t (by rw [gone_yes (by omega) hr]; rfl) ?_
    rw [hn]
    have c3 : cell h ((ad hb).add 3) = some (.slice G.bs.a G.bs.n G.bs.c) := (rp.c 3).trans rfl
    have hbn := rp.bs_n
    have hbn : G.bs.n = (s.slots.map fun id => if id = 0 then none else some (s.enc id)).length := hbn
    rw [List.length_map] at hbn
    refine PtrOk_mk ⟨G.bs, c3, ?_⟩
    rw [wrap_u64' (x := ((G.bs.n : Nat) : Int)) (by omega) (by omega)]
    refine Cond_dec (fun hge => ?_) fun hlt => ?_
    · unfold f59K1
      exact Cond_t rfl (h0 (by rw [List.getD_eq_getElem?_getD, List.getElem?_eq_none (by omega)]; rfl))
    · have hkl : k < s.slots.length := by omega
      obtain ⟨x, hx⟩ : ∃ x, s.slots[k]? = some x := ⟨_, List.getElem?_eq_getElem hkl⟩
      have hgd : s.slots.getD k 0 = x := by rw [List.getD_eq_getElem?_getD, hx]; rfl
      rw [hgd] at h0 h1
      have cb : (0 : Int) ≤ (k : Int) ∧ (k : Int) < ((G.bs.n : Nat) : Int) := by omega
      have hll := rp.ll
      have hll : G.locs.length = (s.slots.map fun id => if id = 0 then none else some (s.enc id)).length := hll
      rw [List.length_map] at hll
      have hL : G.locs[k]? = some G.locs[k] := List.getElem?_eq_getElem (by omega)
      obtain ⟨bb, hba, hbc⟩ := rp.slot_at hL
      have hm : (s.words sp).blocks[k]? = some (if x = 0 then none else some (s.enc x)) := by
        show (s.slots.map _)[k]? = _
        rw [List.getElem?_map, hx]; rfl
      have hbk := rp.bl k _ _ hm hL
      generalize hLk : G.locs[k] = Lk at hL hbc hbk
      by_cases hx0 : x = 0
      · subst hx0
        rw [if_pos rfl] at hbk
        cases Lk with
        | some L => exact hbk.elim
        | none =>
          refine PtrOk_mk ⟨G.bs, c3, cb, PtrOk_of hba ⟨none, by rw [Int.toNat_natCast]; exact hbc, ?_⟩⟩
          unfold f59K1
          exact Cond_t rfl (h0 rfl)
      · rw [if_neg hx0] at hbk
        cases Lk with
        | none => exact hbk.elim
        | some L =>
          refine PtrOk_mk ⟨G.bs, c3, cb, PtrOk_of hba ⟨some (ad L.pb), by rw [Int.toNat_natCast]; exact hbc, ?_⟩⟩
          unfold f59K1
          refine Cond_f rfl (PtrOk_mk ⟨G.bs, c3, cb, PtrOk_of hba ⟨some (ad L.pb), by rw [Int.toNat_natCast]; exact hbc, ?_⟩⟩)
          have hpl : (s.obj x).pl = k := (v.sl k x hx hx0).2.2.2
          exact h1 L (s.size x + 1) [s.enc x] 0 hx0 (.inr ⟨hx0, by rw [hpl]; exact hL, rfl, rfl, rfl, by rw [hpl]; exact hx⟩)
end
end Go.Ev
