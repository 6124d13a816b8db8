/- look under the collection's relation: the refs of one object, one after the other. No condition but the heap's own order. -/
import Derived.Test.YtdkopnbjommjdaaHD
set_option linter.all false
set_option maxRecDepth 100000
namespace Go.Ev
namespace RS
def upd (dn : Nat → Nat) (id n : Nat) (x : Nat) : Nat := if x = id then n else dn x
theorem upd_self (dn : Nat → Nat) (id n : Nat) : upd dn id n id = n := by unfold upd; rw [if_pos rfl]
theorem upd_ne {dn : Nat → Nat} {id n x : Nat} (h : x ≠ id) : upd dn id n x = dn x := by unfold upd; rw [if_neg h]
theorem encD_refs_len (s : RS) (g : Gc) (d id : Nat) : (s.encD g d id).refs.length = (s.obj id).refs.length := by
  unfold encD
  simp only [List.length_append, List.length_map, List.length_take, List.length_drop]
  omega
theorem encD_get {s : RS} {g : Gc} {n id r : Nat} (h : (s.obj id).refs[n]? = some r) : (s.encD g n id).flds.getD n 0 = s.ref r := by
  have hn := (List.getElem?_eq_some_iff.1 h).1
  rw [List.getD_eq_getElem?_getD]
  unfold AObj.flds
  rw [List.getElem?_append_left (by rw [encD_refs_len]; exact hn)]
  unfold encD
  simp only
  rw [List.getElem?_append_right (by simp; omega)]
  simp only [List.length_map, List.length_take, List.getElem?_map, List.getElem?_drop]
  rw [Nat.min_eq_left (by omega), Nat.sub_self, Nat.add_zero, h]
  rfl
theorem encD_set {s : RS} {g : Gc} {n id r : Nat} (h : (s.obj id).refs[n]? = some r) : (s.encD g n id).setF n (s.newRef g r) = s.encD g (n + 1) id := by
  have hn := (List.getElem?_eq_some_iff.1 h).1
  unfold AObj.setF
  rw [if_pos (by rw [encD_refs_len]; exact hn)]
  unfold encD
  simp only [AObj.mk.injEq, true_and, and_true]
  apply List.ext_getElem?
  intro j
  by_cases hj : j = n
  · subst hj
    rw [List.getElem?_set_self (by simp; omega), List.getElem?_append_left (by simp; omega), List.getElem?_map, List.getElem?_take, if_pos (by omega), h]
    rfl
  · rw [List.getElem?_set_ne (Ne.symm hj)]
    rcases Nat.lt_or_ge j n with hlt | hge
    · rw [List.getElem?_append_left (by simp; omega), List.getElem?_append_left (by simp; omega), List.getElem?_map, List.getElem?_map, List.getElem?_take, List.getElem?_take, if_pos hlt, if_pos (by omega)]
    · rw [List.getElem?_append_right (by simp; omega), List.getElem?_append_right (by simp; omega)]
      simp only [List.length_map, List.length_take, List.getElem?_map, List.getElem?_drop]
      congr 2
      omega

theorem big_ne_small {s : RS} (v : s.Inv) {id x i : Nat} (hs : id ∈ s.small) (hx : s.slots[i]? = some x) (h0 : x ≠ 0) : x ≠ id := fun e => by
  have h1 := (v.sl i x hx h0).2.1
  rw [e, (v.sm id hs).2.2.1] at h1
  cases h1
theorem dnr_upd {s : RS} {g : Gc} {dn : Nat → Nat} {m : MH} (c : CRep s g dn m) {id n r : Nat} (hd : dn id = n) (hr : (s.obj id).refs[n]? = some r) (hin : r = 0 ∨ r ∈ g.copied ∨ r ∈ g.line) :
    ∀ x y, y ∈ (s.obj x).refs.take (upd dn id (n + 1) x) → y = 0 ∨ y ∈ g.copied ∨ y ∈ g.line := by
  intro x y hy
  by_cases hx : x = id
  · subst hx
    rw [upd_self, List.take_add_one, hr] at hy
    rcases List.mem_append.1 hy with hy | hy
    · exact c.dnr x y (by rw [hd]; exact hy)
    · have : y = r := by simpa using hy
      rw [this]; exact hin
  · rw [upd_ne hx] at hy
    exact c.dnr x y hy
theorem CRep.setSp {s : RS} (v : s.Inv) {g : Gc} {dn : Nat → Nat} {m : MH} (c : CRep s g dn m) (k : GcOk s g) {a id n r : Nat} (ha : g.copied[a]? = some id) (hd : dn id = n) (hr : (s.obj id).refs[n]? = some r)
    (hin : r = 0 ∨ r ∈ g.copied ∨ r ∈ g.line) : CRep s g (upd dn id (n + 1)) (m.setF (.sp a) n (s.newRef g r)) := by
  have hic := List.mem_of_getElem? ha
  have hnc : g.copied.Nodup := (List.nodup_append.1 k.nd).1
  refine ⟨c.half, ?_, ?_, c.reached, c.grey, fun x h1 h2 => ?_, dnr_upd c hd hr hin, c.sz⟩
  · show m.spare.modify a _ = _
    rw [c.spare]
    apply List.ext_getElem?
    intro j
    rw [List.getElem?_modify, List.getElem?_map, List.getElem?_map]
    cases hj : g.copied[j]? with
    | none => rfl
    | some x =>
      show some _ = some _
      congr 1
      by_cases haj : a = j
      · subst haj
        rw [ha] at hj
        obtain rfl := Option.some.inj hj
        simp only [if_true]
        rw [hd, upd_self, encD_set hr]
      · have hne : x ≠ id := fun e => by
          subst e
          exact haj ((List.getElem?_inj (List.getElem?_eq_some_iff.1 ha).1 hnc).1 (ha.trans hj.symm))
        simp only [if_neg haj]
        rw [upd_ne hne]
  · show m.blocks = _
    rw [c.blocks]
    refine List.map_congr_left fun x hx => ?_
    by_cases h0 : x = 0
    · rw [if_pos h0, if_pos h0]
    · obtain ⟨i, hi⟩ := List.mem_iff_getElem?.1 hx
      rw [if_neg h0, if_neg h0, upd_ne (big_ne_small v (k.cp id hic) hi h0)]
  · rw [upd_ne (fun e : x = id => h1 (by rw [e]; exact hic))]
    exact c.dn0 x h1 h2
theorem CRep.setSl {s : RS} (v : s.Inv) {g : Gc} {dn : Nat → Nat} {m : MH} (c : CRep s g dn m) (k : GcOk s g) {id n r : Nat} (hl : id ∈ g.line) (hd : dn id = n) (hr : (s.obj id).refs[n]? = some r)
    (hin : r = 0 ∨ r ∈ g.copied ∨ r ∈ g.line) : CRep s g (upd dn id (n + 1)) (m.setF (.sl (s.obj id).pl) n (s.newRef g r)) := by
  obtain ⟨h0, hs⟩ := k.ln id hl
  obtain ⟨i, hi⟩ := List.mem_iff_getElem?.1 hs
  have hpl : (s.obj id).pl = i := (v.sl i id hi h0).2.2.2
  refine ⟨c.half, ?_, ?_, c.reached, c.grey, fun x h1 h2 => ?_, dnr_upd c hd hr hin, c.sz⟩
  · show m.spare = _
    rw [c.spare]
    exact List.map_congr_left fun x hx => by rw [upd_ne (big_ne_small v (k.cp x hx) hi h0).symm]
  · show m.blocks.modify _ _ = _
    rw [hpl, c.blocks]
    apply List.ext_getElem?
    intro j
    rw [List.getElem?_modify, List.getElem?_map, List.getElem?_map]
    cases hj : s.slots[j]? with
    | none => rfl
    | some x =>
      show some _ = some _
      congr 1
      by_cases hij : i = j
      · subst hij
        rw [hi] at hj
        obtain rfl := Option.some.inj hj
        simp only [if_true, if_neg h0, Option.map_some]
        rw [hd, upd_self, encD_set hr]
      · by_cases hx0 : x = 0
        · simp [hij, hx0]
        · have hne : x ≠ id := fun e => by
            subst e
            have := (v.sl j x hj hx0).2.2.2
            omega
          simp only [if_neg hij, if_neg hx0]
          rw [upd_ne hne]
  · rw [upd_ne (fun e : x = id => h2 (by rw [e]; exact hl))]
    exact c.dn0 x h1 h2

theorem reachL_snoc (s : RS) (g : Gc) (l : List Nat) (r : Nat) : s.reachL g (l ++ [r]) = s.reach (s.reachL g l) r := by unfold reachL; rw [List.foldl_append]; rfl
theorem reach_mem {s : RS} {g : Gc} {r : Nat} : r = 0 ∨ r ∈ (s.reach g r).copied ∨ r ∈ (s.reach g r).line := by
  by_cases h : r = 0 ∨ r ∈ g.copied ∨ r ∈ g.line
  · rw [reach_in h]; exact h
  · cases hb : (s.obj r).big with
    | true => rw [reach_big h hb]; exact .inr (.inr (List.mem_append_right _ (List.mem_singleton.2 rfl)))
    | false => rw [reach_small h hb]; exact .inr (.inl (List.mem_append_right _ (List.mem_singleton.2 rfl)))
/-- The target of an object that has been reached. -/
def IsTgt (s : RS) (g : Gc) (id : Nat) : Tgt → Prop
  | .sp a => g.copied[a]? = some id
  | .sl i => id ∈ g.line ∧ i = (s.obj id).pl
theorem IsTgt.grow {s : RS} {g : Gc} {id : Nat} {t : Tgt} (h : IsTgt s g id t) (r : Nat) : IsTgt s (s.reach g r) id t := by
  cases t with
  | sp a =>
    obtain ⟨l, hl⟩ := (s.reach_pre g r).1
    show (s.reach g r).copied[a]? = some id
    rw [← hl, List.getElem?_append_left (List.getElem?_eq_some_iff.1 (show g.copied[a]? = some id from h)).1]
    exact h
  | sl i => exact ⟨(s.reach_pre g r).2.subset h.1, h.2⟩
theorem IsTgt.at {s : RS} (v : s.Inv) {g : Gc} {dn : Nat → Nat} {m : MH} (c : CRep s g dn m) (k : GcOk s g) {id : Nat} {t : Tgt} (h : IsTgt s g id t) : m.at t = some (s.encD g (dn id) id) := by
  cases t with
  | sp a =>
    show m.spare[a]? = _
    rw [c.spare, List.getElem?_map, show g.copied[a]? = some id from h]
    rfl
  | sl i =>
    obtain ⟨h1, rfl⟩ := h
    obtain ⟨h0, hs⟩ := k.ln id h1
    obtain ⟨j, hj⟩ := List.mem_iff_getElem?.1 hs
    have hpl : (s.obj id).pl = j := (v.sl j id hj h0).2.2.2
    show (m.blocks[(s.obj id).pl]?).bind _ = _
    rw [hpl, c.blocks, List.getElem?_map, hj]
    simp [h0]

theorem upd_upd (dn : Nat → Nat) (id a b : Nat) : upd (upd dn id a) id b = upd dn id b := by
  funext x
  by_cases hx : x = id
  · subst hx; rw [upd_self, upd_self]
  · rw [upd_ne hx, upd_ne hx, upd_ne hx]
theorem mLook_rep {s : RS} (v : s.Inv) {g : Gc} {dn : Nat → Nat} {m : MH} (c : CRep s g dn m) (k : GcOk s g) {id : Nat} {t : Tgt} (ht : IsTgt s g id t) (hh : s.here id) (hd : dn id = 0) :
    ∀ n, n ≤ (s.obj id).refs.length → CRep s (s.reachL g ((s.obj id).refs.take n)) (upd dn id n) (mLook m t n) ∧ GcOk s (s.reachL g ((s.obj id).refs.take n)) ∧ IsTgt s (s.reachL g ((s.obj id).refs.take n)) id t
  | 0, _ => by
    have e : upd dn id 0 = dn := by
      funext x
      by_cases hx : x = id
      · subst hx; rw [upd_self, hd]
      · exact upd_ne hx
    rw [e]
    exact ⟨c, k, ht⟩
  | n + 1, hn => by
    obtain ⟨c1, k1, t1⟩ := mLook_rep v c k ht hh hd n (by omega)
    obtain ⟨r, hr⟩ : ∃ r, (s.obj id).refs[n]? = some r := ⟨_, List.getElem?_eq_getElem (by omega)⟩
    have hrh : r = 0 ∨ s.here r := v.rf id hh r (List.mem_of_getElem? hr)
    have hat := t1.at v c1 k1
    rw [upd_self] at hat
    have hg := encD_get (g := s.reachL g ((s.obj id).refs.take n)) hr
    obtain ⟨q1, q2⟩ := c1.reachAny v k1 hrh
    have k2 := k1.reach v hrh
    have t2 := t1.grow r
    have hs : (s.obj id).refs.take (n + 1) = (s.obj id).refs.take n ++ [r] := by rw [List.take_add_one, hr]; rfl
    rw [mLook_succ m t n hat, hg, q1, hs, reachL_snoc]
    have hu : upd dn id n id = n := upd_self dn id n
    refine ⟨?_, k2, t2⟩
    cases t with
    | sp a =>
      have := q2.setSp v k2 (show (s.reach (s.reachL g ((s.obj id).refs.take n)) r).copied[a]? = some id from t2) hu hr reach_mem
      rw [upd_upd] at this
      exact this
    | sl i =>
      obtain ⟨h1, rfl⟩ := t2
      have := q2.setSl v k2 h1 hu hr reach_mem
      rw [upd_upd] at this
      exact this

theorem pl_lt {s : RS} (v : s.Inv) {id : Nat} (h : s.here id) : (s.obj id).pl < 1048577 := by
  rcases v.big_of h with ⟨hb, hs, h0⟩ | ⟨hb, hs⟩
  · obtain ⟨i, hi⟩ := List.mem_iff_getElem?.1 hs
    have hpl : (s.obj id).pl = i := (v.sl i id hi h0).2.2.2
    have := (List.getElem?_eq_some_iff.1 hi).1
    have := v.sll
    omega
  · obtain ⟨j, hj, hp⟩ := v.small_at hs
    have hle : s.sizes (s.small.take j) ≤ s.sizes s.small := sizes_le _ _ (v.nds.sublist (List.take_sublist j _)) fun x hx => List.mem_of_mem_take hx
    have := v.u1; have := v.u2; have := v.h2; have := v.l2
    omega
theorem ref_lt {s : RS} (v : s.Inv) {id : Nat} (h : id = 0 ∨ s.here id) : s.ref id < 18446744073709551616 := by
  have ht : top = 9223372036854775808 := rfl
  by_cases h0 : id = 0
  · subst h0; rw [ref_zero]; omega
  · have hh := h.resolve_left h0
    have := pl_lt v hh
    cases hb : (s.obj id).big with
    | true => rw [ref_big h0 hb]; omega
    | false => rw [ref_small h0 hb]; omega

theorem placeIn_le {s : RS} : ∀ (l : List Nat) (p id : Nat), s.placeIn l p id ≤ p + s.sizes l
  | [], p, id => Nat.zero_le _
  | x :: l, p, id => by
    show (if x = id then p else s.placeIn l (p + s.size x) id) ≤ p + (s.size x + s.sizes l)
    split
    · omega
    · have := placeIn_le (s := s) l (p + s.size x) id
      omega
theorem newRef_lt {s : RS} (v : s.Inv) {g : Gc} (k : GcOk s g) {id : Nat} (h : id = 0 ∨ s.here id) : s.newRef g id < 18446744073709551616 := by
  have ht : top = 9223372036854775808 := rfl
  unfold newRef
  split
  · omega
  · rename_i h0
    have := pl_lt v (h.resolve_left h0)
    split
    · omega
    · have h1 := placeIn_le (s := s) g.copied 1 id
      have h2 := sizes_le (s := s) g.copied s.small (List.nodup_append.1 k.nd).1 k.cp
      have := v.u1; have := v.u2; have := v.h2; have := v.l2
      omega

theorem mLook_ok {s : RS} (v : s.Inv) {g : Gc} {dn : Nat → Nat} {m : MH} (c : CRep s g dn m) (k : GcOk s g) {id : Nat} {t : Tgt} (ht : IsTgt s g id t) (hh : s.here id) (hd : dn id = 0) : LookOk m t (s.enc id) := by
  have h0 := ht.at v c k
  rw [hd, encD_zero] at h0
  refine ⟨h0, rfl, fun n hn => ?_⟩
  have hn : n < (s.obj id).refs.length := by simpa [enc] using hn
  obtain ⟨c1, k1, t1⟩ := mLook_rep v c k ht hh hd n (by omega)
  obtain ⟨r, hr⟩ : ∃ r, (s.obj id).refs[n]? = some r := ⟨_, List.getElem?_eq_getElem hn⟩
  have hrh : r = 0 ∨ s.here r := v.rf id hh r (List.mem_of_getElem? hr)
  have hat := t1.at v c1 k1
  rw [upd_self] at hat
  refine ⟨_, hat, rfl, by rw [encD_refs_len]; simp [enc], rfl, ?_, ?_, ?_⟩
  · rw [encD_get hr]; exact ref_lt v hrh
  · rw [encD_get hr]; exact c1.moveOk v k1 hrh
  · rw [encD_get hr, (c1.reachAny v k1 hrh).1]
    exact newRef_lt v (k1.reach v hrh) hrh
end RS
end Go.Ev
