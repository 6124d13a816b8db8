/- Alloc: as the document's heap. No condition but that the heap is one. -/
import Derived.Test.YtdkopnbjommjdaaHV
set_option linter.all false
set_option maxRecDepth 100000
namespace Go.Ev
open Go.Proofs
instance (k r w : Int) : Decidable (Shape k r w) := inferInstanceAs (Decidable ((_ ∧ _) ∧ (_ ∧ _) ∧ (_ ∧ _)))
namespace RS
def mkO (k r w : Nat) (big : Bool) (pl : Nat) : RObj := ⟨k, List.replicate r 0, List.replicate w 0, big, pl⟩
def addSmall (s : RS) (k r w : Nat) : RS := { s with small := s.small ++ [s.objs.length], objs := s.objs ++ [mkO k r w false s.used], used := s.used + (1 + r + w) }
def freeSlot : List Nat → Nat
  | [] => 0
  | x :: l => if x = 0 then 0 else freeSlot l + 1
def addBig (s : RS) (k r w : Nat) : RS :=
  { s with
    large := s.large + (2 + r + w)
    since := s.since + (2 + r + w)
    slots := (if freeSlot s.slots < s.slots.length then s.slots.set (freeSlot s.slots) s.objs.length else s.slots ++ [s.objs.length])
    objs := s.objs ++ [mkO k r w true (freeSlot s.slots)] }
def block1 (s : RS) (b : Nat) : RS := if s.limit < 2 * s.half + s.large + b ∨ s.half + s.kept < s.since + b then s.collect else s
def block2 (s : RS) (k r w : Nat) : RS × Nat × Int :=
  if s.limit < 2 * s.half + s.large + (2 + r + w) then
    (if s.limit < s.large + (2 + r + w) ∨ (s.limit - s.large - (2 + r + w)) / 2 < 64 ∨ (s.limit - s.large - (2 + r + w)) / 2 < s.used then (s, 0, 31)
    else ((s.become ((s.limit - s.large - (2 + r + w)) / 2)).addBig k r w, top + freeSlot s.slots, 0))
  else (s.addBig k r w, top + freeSlot s.slots, 0)
def block (s : RS) (k r w : Nat) : RS × Nat × Int := (s.block1 (2 + r + w)).block2 k r w
def small1 (s : RS) (n : Nat) : RS := if s.half < s.used + n then s.collection.fit n else s
def small2 (s : RS) (k r w : Nat) : RS × Nat × Int := if s.half < s.used + (1 + r + w) then (s, 0, 31) else (s.addSmall k r w, s.used, 0)
def alloc (s : RS) (k r w : Int) : RS × Nat × Int :=
  if Shape k r w then
    (if 64 < 1 + r.toNat + w.toNat then s.block k.toNat r.toNat w.toNat else (s.small1 (1 + r.toNat + w.toNat)).small2 k.toNat r.toNat w.toNat)
  else (s, 0, 34)
theorem freeSlot_eq : ∀ (l : List Nat) (i : Nat), (∀ j, j < i → ∃ x, l[j]? = some x ∧ x ≠ 0) → (l[i]? = some 0 ∨ i = l.length) → freeSlot l = i
  | [], i, h, e => by
    rcases e with e | e
    · simp at e
    · rw [e]; rfl
  | y :: l, 0, _, e => by
    rcases e with e | e
    · obtain rfl : y = 0 := by simpa using e
      rfl
    · simp at e
  | y :: l, i + 1, h, e => by
    obtain ⟨x, hx, h0⟩ := h 0 (by omega)
    obtain rfl : y = x := by simpa using hx
    show (if y = 0 then 0 else freeSlot l + 1) = i + 1
    rw [if_neg h0, freeSlot_eq l i (fun j hj => by have := h (j + 1) (by omega); simpa using this) (by simpa using e)]
theorem freeSlot_facts : ∀ (l : List Nat), freeSlot l ≤ l.length ∧ (freeSlot l < l.length → l[freeSlot l]? = some 0) ∧ (∀ j, j < freeSlot l → ∃ x, l[j]? = some x ∧ x ≠ 0)
  | [] => ⟨Nat.le_refl _, nofun, nofun⟩
  | y :: l => by
    obtain ⟨h1, h2, h3⟩ := freeSlot_facts l
    by_cases hy : y = 0
    · subst hy
      exact ⟨Nat.zero_le _, fun _ => rfl, nofun⟩
    · have e : freeSlot (y :: l) = freeSlot l + 1 := if_neg hy
      rw [e]
      refine ⟨Nat.succ_le_succ h1, fun h => ?_, fun j hj => ?_⟩
      · rw [List.getElem?_cons_succ]; exact h2 (by simpa using h)
      · cases j with
        | zero => exact ⟨y, rfl, hy⟩
        | succ j => rw [List.getElem?_cons_succ]; exact h3 j (by omega)
section
variable {s : RS}
theorem app_obj (s t : RS) (o : RObj) (e : t.objs = s.objs ++ [o]) (x : Nat) : t.obj x = if x = s.objs.length then o else s.obj x := by
  unfold obj
  rw [e, List.getD_eq_getElem?_getD, List.getD_eq_getElem?_getD]
  rcases Nat.lt_trichotomy x s.objs.length with h | h | h
  · rw [List.getElem?_append_left h, if_neg (by omega)]
  · subst h
    rw [List.getElem?_append_right (Nat.le_refl _), Nat.sub_self, if_pos rfl]; rfl
  · rw [List.getElem?_eq_none (by simp; omega), List.getElem?_eq_none (by omega), if_neg (by omega)]
theorem app_old {t : RS} {o : RObj} (e : t.objs = s.objs ++ [o]) {x : Nat} (hx : x < s.objs.length) : t.obj x = s.obj x := by rw [app_obj s t o e, if_neg (by omega)]
theorem app_new {t : RS} {o : RObj} (e : t.objs = s.objs ++ [o]) : t.obj s.objs.length = o := by rw [app_obj s t o e, if_pos rfl]
theorem app_ref (v : s.Inv) {t : RS} {o : RObj} (e : t.objs = s.objs ++ [o]) {x : Nat} (hx : x = 0 ∨ s.here x) : t.ref x = s.ref x := by
  unfold ref
  by_cases h0 : x = 0
  · rw [if_pos h0, if_pos h0]
  · rw [app_old e (v.here_lt (hx.resolve_left h0))]
theorem app_enc (v : s.Inv) {t : RS} {o : RObj} (e : t.objs = s.objs ++ [o]) {x : Nat} (hx : s.here x) : t.enc x = s.enc x := by
  unfold enc
  rw [app_old e (v.here_lt hx)]
  congr 1
  exact List.map_congr_left fun y hy => app_ref v e (v.rf x hx y hy)
theorem app_encNew {t : RS} {k r w pl : Nat} {big : Bool} (e : t.objs = s.objs ++ [mkO k r w big pl]) : t.enc s.objs.length = newO k r w := by
  unfold enc
  rw [app_new e]
  show (⟨k, (List.replicate r 0).map t.ref, List.replicate w 0, none⟩ : AObj) = ⟨k, List.replicate r 0, List.replicate w 0, none⟩
  rw [List.map_replicate, ref_zero]
theorem app_rootW (v : s.Inv) {t : RS} {o : RObj} (e : t.objs = s.objs ++ [o]) : s.roots.map t.rootW = s.roots.map s.rootW := by
  refine List.map_congr_left fun x hx => ?_
  cases x with
  | none => rfl
  | some id => show (true, _) = (true, _); rw [app_ref v e (v.rt id hx)]
theorem app_size {t : RS} {o : RObj} (e : t.objs = s.objs ++ [o]) {x : Nat} (hx : x < s.objs.length) : t.size x = s.size x := by unfold size; rw [app_old e hx]
theorem mk_size (k r w pl : Nat) (b : Bool) : (mkO k r w b pl).size = 1 + r + w := by unfold mkO RObj.size; simp
theorem mk_shp {k r w pl : Nat} {b : Bool} (h1 : 1 ≤ k) (h2 : k ≤ 255) (h3 : r ≤ 1048576) (h4 : w ≤ 1048576) : 1 ≤ (mkO k r w b pl).kind ∧ (mkO k r w b pl).kind ≤ 255 ∧ (mkO k r w b pl).refs.length ≤ 1048576 ∧ (mkO k r w b pl).raws.length ≤ 1048576 ∧ ∀ x ∈ (mkO k r w b pl).raws, x < 18446744073709551616 :=
  ⟨h1, h2, by simpa [mkO] using h3, by simpa [mkO] using h4, fun x hx => by have hx : x ∈ List.replicate w 0 := hx; rw [(List.mem_replicate.1 hx).2]; omega⟩
theorem Inv.addSmall (v : s.Inv) {k r w : Nat} (h1 : 1 ≤ k) (h2 : k ≤ 255) (h3 : r ≤ 1048576) (h4 : w ≤ 1048576) (h5 : 1 + r + w ≤ 64) (h6 : s.used + (1 + r + w) ≤ s.half) : (s.addSmall k r w).Inv := by
  have e : (s.addSmall k r w).objs = s.objs ++ [mkO k r w false s.used] := rfl
  have hlt : ∀ x ∈ s.small, x < s.objs.length := fun x hx => (v.sm x hx).2.1
  have hnm : s.objs.length ∉ s.small := fun h => by have := hlt _ h; omega
  have esz : ∀ x ∈ s.small, (s.addSmall k r w).size x = s.size x := fun x hx => app_size e (hlt x hx)
  have hhere : ∀ x, (s.addSmall k r w).here x → s.here x ∨ x = s.objs.length := fun x hx => by
    rcases hx with hx | hx
    · rcases List.mem_append.1 (show x ∈ s.small ++ [s.objs.length] from hx) with hx | hx
      · exact .inl (.inl hx)
      · exact .inr (List.mem_singleton.1 hx)
    · exact .inl (.inr hx)
  have hup : ∀ x, s.here x → (s.addSmall k r w).here x := fun x hx => hx.imp_left fun hx => List.mem_append_left _ hx
  have hnew : (s.addSmall k r w).size s.objs.length = 1 + r + w := by unfold size; rw [app_new e, mk_size]
  refine ⟨v.l1, v.l2, v.h1, v.h2, ?_, h6, ?_, v.sll, v.rl, ?_, ?_, ?_, ?_, ?_, ?_, ?_, v.kp, v.sn⟩
  · show s.used + (1 + r + w) = 1 + (s.addSmall k r w).sizes (s.small ++ [s.objs.length])
    rw [sizes_snoc, sizes_congr esz, hnew, v.u1]
    omega
  · show s.large = (s.slots.map _).sum
    rw [v.lg]
    congr 1
    refine List.map_congr_left fun x hx => ?_
    by_cases h0 : x = 0
    · rw [if_pos h0, if_pos h0]
    · rw [if_neg h0, if_neg h0, app_size e (v.here_lt (.inr ⟨h0, hx⟩))]
  · show (s.small ++ [s.objs.length]).Nodup
    rw [List.nodup_append]
    exact ⟨v.nds, by simp, fun a ha b hb => by rw [List.mem_singleton.1 hb]; exact fun e => hnm (e ▸ ha)⟩
  · intro x hx
    show 0 < x ∧ x < (s.objs ++ [mkO k r w false s.used]).length ∧ _ ∧ _ ∧ _ = (s.addSmall k r w).placeIn (s.small ++ [s.objs.length]) 1 x
    rw [List.length_append]
    rcases List.mem_append.1 (show x ∈ s.small ++ [s.objs.length] from hx) with hx | hx
    · obtain ⟨q1, q2, q3, q4, q5⟩ := v.sm x hx
      rw [app_old e q2, esz x hx, placeIn_app_left _ _ _ _ hx, placeIn_congr _ _ _ esz]
      exact ⟨q1, by simp; omega, q3, q4, q5⟩
    · obtain rfl := List.mem_singleton.1 hx
      rw [app_new e, hnew, placeIn_snoc _ _ _ hnm, sizes_congr esz]
      exact ⟨v.ob, by simp, rfl, h5, v.u1⟩
  · intro i x hi h0
    obtain ⟨q1, q2, q3, q4⟩ := v.sl i x hi h0
    show x < (s.objs ++ [mkO k r w false s.used]).length ∧ _
    rw [List.length_append, app_old e q1, app_size e q1]
    exact ⟨by simp; omega, q2, q3, q4⟩
  · intro x hx y hy
    rcases hhere x hx with hx | rfl
    · rw [app_old e (v.here_lt hx)] at hy
      exact (v.rf x hx y hy).imp_right (hup y)
    · rw [app_new e] at hy
      exact .inl (List.mem_replicate.1 hy).2
  · intro x hx
    exact (v.rt x hx).imp_right (hup x)
  · intro x hx
    rcases hhere x hx with hx | rfl
    · rw [app_old e (v.here_lt hx)]; exact v.shp x hx
    · rw [app_new e]; exact mk_shp h1 h2 h3 h4
  · show 1 ≤ (s.objs ++ [mkO k r w false s.used]).length
    simp
theorem slots_big (v : s.Inv) (h : ∀ i, i < s.slots.length → ∃ x, s.slots[i]? = some x ∧ x ≠ 0) : 66 * s.slots.length ≤ s.large := by
  rw [v.lg]
  have : ∀ l : List Nat, (∀ x ∈ l, x ≠ 0 ∧ 64 < s.size x) → 66 * l.length ≤ (l.map fun id => if id = 0 then 0 else s.size id + 1).sum := by
    intro l
    induction l with
    | nil => intro _; exact Nat.le_refl _
    | cons y l ih =>
      intro hl
      have h1 := hl y (List.mem_cons_self ..)
      have h2 := ih fun x hx => hl x (List.mem_cons_of_mem _ hx)
      rw [List.map_cons, List.sum_cons, if_neg h1.1, List.length_cons]
      omega
  refine this _ fun x hx => ?_
  obtain ⟨i, hi⟩ := List.mem_iff_getElem?.1 hx
  obtain ⟨y, hy, h0⟩ := h i (List.getElem?_eq_some_iff.1 hi).1
  rw [hi] at hy
  obtain rfl := Option.some.inj hy
  exact ⟨h0, (v.sl i x hi h0).2.2.1⟩
theorem addBig_slots (s : RS) (k r w : Nat) : (s.addBig k r w).slots = if freeSlot s.slots < s.slots.length then s.slots.set (freeSlot s.slots) s.objs.length else s.slots ++ [s.objs.length] := rfl
/-- The slots behind: the new one in its place, all others as they were. -/
theorem addBig_slot (s : RS) (k r w i : Nat) : (s.addBig k r w).slots[i]? = if i = freeSlot s.slots then some s.objs.length else s.slots[i]? := by
  obtain ⟨h1, h2, h3⟩ := freeSlot_facts s.slots
  rw [addBig_slots]
  split
  · rename_i h
    by_cases hi : i = freeSlot s.slots
    · rw [if_pos hi, hi, List.getElem?_set_self h]
    · rw [if_neg hi, List.getElem?_set_ne (Ne.symm hi)]
  · rename_i h
    have hf : freeSlot s.slots = s.slots.length := by omega
    rw [hf]
    rcases Nat.lt_trichotomy i s.slots.length with hi | hi | hi
    · rw [List.getElem?_append_left hi, if_neg (by omega)]
    · rw [if_pos hi, hi, List.getElem?_append_right (Nat.le_refl _), Nat.sub_self]; rfl
    · rw [List.getElem?_eq_none (by simp; omega), if_neg (by omega), List.getElem?_eq_none (by omega)]
theorem sum_set {f : Nat → Nat} {x : Nat} : ∀ {l : List Nat} {i y : Nat}, l[i]? = some y → ((l.set i x).map f).sum + f y = (l.map f).sum + f x
  | [], i, y, h => by simp at h
  | z :: l, 0, y, h => by
    obtain rfl : z = y := by simpa using h
    simp; omega
  | z :: l, i + 1, y, h => by
    have := sum_set (f := f) (x := x) (l := l) (i := i) (y := y) (by simpa using h)
    simp only [List.set_cons_succ, List.map_cons, List.sum_cons]
    omega
theorem Inv.addBig (v : s.Inv) {k r w : Nat} (h1 : 1 ≤ k) (h2 : k ≤ 255) (h3 : r ≤ 1048576) (h4 : w ≤ 1048576) (h5 : 64 < 1 + r + w) (h6 : 2 * s.half + s.large + (2 + r + w) ≤ s.limit) (h7 : s.since + (2 + r + w) ≤ 2097152) : (s.addBig k r w).Inv := by
  have e : (s.addBig k r w).objs = s.objs ++ [mkO k r w true (freeSlot s.slots)] := rfl
  obtain ⟨q1, q2, q3⟩ := freeSlot_facts s.slots
  have hlt : ∀ x, s.here x → x < s.objs.length := fun x hx => v.here_lt hx
  have hob := v.ob
  have hup : ∀ x, s.here x → (s.addBig k r w).here x := fun x hx => by
    refine hx.imp_right fun ⟨h0, hx⟩ => ⟨h0, ?_⟩
    obtain ⟨i, hi⟩ := List.mem_iff_getElem?.1 hx
    refine List.mem_iff_getElem?.2 ⟨i, ?_⟩
    rw [addBig_slot, if_neg fun hf => ?_]
    · exact hi
    · have := q2 (by rw [← hf]; exact (List.getElem?_eq_some_iff.1 hi).1)
      rw [← hf, hi] at this
      exact h0 (Option.some.inj this)
  have hhere : ∀ x, (s.addBig k r w).here x → s.here x ∨ x = s.objs.length := fun x hx => by
    rcases hx with hx | ⟨h0, hx⟩
    · exact .inl (.inl hx)
    · obtain ⟨i, hi⟩ := List.mem_iff_getElem?.1 hx
      rw [addBig_slot] at hi
      split at hi
      · exact .inr (Option.some.inj hi).symm
      · exact .inl (.inr ⟨h0, List.mem_of_getElem? hi⟩)
  have hnew : (s.addBig k r w).size s.objs.length = 1 + r + w := by unfold size; rw [app_new e, mk_size]
  have hsm : ∀ x ∈ s.small, (s.addBig k r w).size x = s.size x := fun x hx => app_size e (v.sm x hx).2.1
  have hl2 := v.l2
  have hh1 := v.h1
  refine ⟨v.l1, v.l2, v.h1, ?_, ?_, v.u2, ?_, ?_, v.rl, v.nds, ?_, ?_, ?_, ?_, ?_, ?_, v.kp, h7⟩
  · show 2 * s.half + (s.large + (2 + r + w)) ≤ s.limit; omega
  · show s.used = 1 + (s.addBig k r w).sizes s.small
    rw [sizes_congr hsm]; exact v.u1
  · show s.large + (2 + r + w) = ((s.addBig k r w).slots.map _).sum
    have eo : ∀ x ∈ s.slots, (if x = 0 then 0 else (s.addBig k r w).size x + 1) = if x = 0 then 0 else s.size x + 1 := fun x hx => by
      by_cases h0 : x = 0
      · rw [if_pos h0, if_pos h0]
      · rw [if_neg h0, if_neg h0, app_size e (hlt x (.inr ⟨h0, hx⟩))]
    have es : (s.slots.map fun x => if x = 0 then 0 else (s.addBig k r w).size x + 1).sum = s.large := by rw [List.map_congr_left eo, v.lg]
    have en : (if s.objs.length = 0 then 0 else (s.addBig k r w).size s.objs.length + 1) = 2 + r + w := by rw [if_neg (by omega), hnew]; omega
    rw [addBig_slots]
    split
    · rename_i h
      have := sum_set (f := fun x => if x = 0 then 0 else (s.addBig k r w).size x + 1) (x := s.objs.length) (q2 h)
      simp only [if_true] at this
      rw [en] at this
      omega
    · rw [List.map_append, List.sum_append, es]
      show s.large + _ = s.large + ((if s.objs.length = 0 then 0 else (s.addBig k r w).size s.objs.length + 1) + 0)
      rw [en]; rfl
  · rw [addBig_slots]
    split
    · rw [List.length_set]; exact v.sll
    · rename_i h
      have := slots_big v fun i hi => q3 i (by omega)
      rw [List.length_append]
      show s.slots.length + 1 ≤ _
      omega
  · intro x hx
    obtain ⟨p1, p2, p3, p4, p5⟩ := v.sm x hx
    show 0 < x ∧ x < (s.objs ++ [mkO k r w true (freeSlot s.slots)]).length ∧ _ ∧ _ ∧ _ = (s.addBig k r w).placeIn s.small 1 x
    rw [List.length_append, app_old e p2, hsm x hx, placeIn_congr _ _ _ hsm]
    exact ⟨p1, by simp; omega, p3, p4, p5⟩
  · intro i x hi h0
    rw [addBig_slot] at hi
    show x < (s.objs ++ [mkO k r w true (freeSlot s.slots)]).length ∧ _
    rw [List.length_append]
    split at hi
    · rename_i hif
      obtain rfl := Option.some.inj hi
      rw [app_new e, hnew]
      exact ⟨by simp, rfl, h5, hif.symm⟩
    · obtain ⟨p1, p2, p3, p4⟩ := v.sl i x hi h0
      rw [app_old e p1, app_size e p1]
      exact ⟨by simp; omega, p2, p3, p4⟩
  · intro x hx y hy
    rcases hhere x hx with hx | rfl
    · rw [app_old e (v.here_lt hx)] at hy
      exact (v.rf x hx y hy).imp_right (hup y)
    · rw [app_new e] at hy
      exact .inl (List.mem_replicate.1 hy).2
  · intro x hx
    exact (v.rt x hx).imp_right (hup x)
  · intro x hx
    rcases hhere x hx with hx | rfl
    · rw [app_old e (v.here_lt hx)]; exact v.shp x hx
    · rw [app_new e]; exact mk_shp h1 h2 h3 h4
  · show 1 ≤ (s.objs ++ [mkO k r w true (freeSlot s.slots)]).length
    simp
theorem Inv.block1 (v : s.Inv) (b : Nat) : (s.block1 b).Inv := by
  unfold RS.block1
  split
  · exact v.collect
  · exact v
theorem become_since (s : RS) (n : Nat) : (s.become n).since = s.since := by unfold RS.become; split <;> rfl
theorem fit_since (s : RS) (n : Nat) : (s.fit n).since = s.since := by
  unfold RS.fit
  split
  · split
    · exact become_since _ _
    · rfl
  · split
    · exact become_since _ _
    · rfl
theorem block1_since (s : RS) (b : Nat) : (s.block1 b).since = 0 ∨ (s.block1 b).since + b ≤ (s.block1 b).half + (s.block1 b).kept := by
  unfold RS.block1
  split
  · left
    show (s.collection.fit 0).since = 0
    rw [fit_since]; rfl
  · right; omega
theorem Inv.block2 (v : s.Inv) {k r w : Nat} (h1 : 1 ≤ k) (h2 : k ≤ 255) (h3 : r ≤ 1048576) (h4 : w ≤ 1048576) (h5 : 64 < 1 + r + w) (h7 : s.since = 0 ∨ s.since + (2 + r + w) ≤ s.half + s.kept) : (s.block2 k r w).1.Inv := by
  have q1 := v.kp; have q2 := v.h2; have q3 := v.l2
  unfold RS.block2
  split
  · split
    · exact v
    · rename_i hn
      have v2 := v.become (n := (s.limit - s.large - (2 + r + w)) / 2) (by omega) (by omega) (by omega)
      refine v2.addBig h1 h2 h3 h4 h5 ?_ (by rw [become_since]; omega)
      unfold RS.become
      split
      · omega
      · show 2 * ((s.limit - s.large - (2 + r + w)) / 2) + s.large + (2 + r + w) ≤ s.limit
        omega
  · exact v.addBig h1 h2 h3 h4 h5 (by omega) (by omega)
theorem Inv.small1 (v : s.Inv) (n : Nat) : (s.small1 n).Inv := by
  unfold RS.small1
  split
  · exact v.collection.fit
  · exact v
theorem Inv.alloc (v : s.Inv) (k r w : Int) : (s.alloc k r w).1.Inv := by
  unfold RS.alloc
  split
  · rename_i h
    obtain ⟨⟨h1, h2⟩, ⟨h3, h4⟩, h5, h6⟩ := h
    split
    · exact (v.block1 _).block2 (by omega) (by omega) (by omega) (by omega) (by omega) (s.block1_since _)
    · unfold RS.small2
      split
      · exact v.small1 _
      · exact (v.small1 _).addSmall (by omega) (by omega) (by omega) (by omega) (by omega) (by omega)
  · exact v
end
end RS
end Go.Ev
