/- (*Heap).collect is the document's collection. No condition but that the heap is one. -/
import Derived.Test.YtdkopnbjommjdaaHI
set_option linter.all false
set_option maxRecDepth 100000
namespace Go.Ev
open Go.Proofs
/-- What a collection's steps leave alone. -/
structure Rest (m m' : MH) : Prop where
  limit : m'.limit = m.limit
  hz : m'.hz = m.hz
  sz : m'.sz = m.sz
  large : m'.large = m.large
  since : m'.since = m.since
  kept : m'.kept = m.kept
  roots : m'.roots = m.roots
  r5 : m'.r5 = m.r5
  r6 : m'.r6 = m.r6
  r7 : m'.r7 = m.r7
  r8 : m'.r8 = m.r8
theorem Rest.refl (m : MH) : Rest m m := ⟨rfl, rfl, rfl, rfl, rfl, rfl, rfl, rfl, rfl, rfl, rfl⟩
theorem Rest.trans {a b c : MH} (x : Rest a b) (y : Rest b c) : Rest a c :=
  ⟨y.1.trans x.1, y.2.trans x.2, y.3.trans x.3, y.4.trans x.4, y.5.trans x.5, y.6.trans x.6, y.7.trans x.7, y.8.trans x.8, y.9.trans x.9, y.10.trans x.10, y.11.trans x.11⟩
theorem Rest.setRoots {m m' : MH} (x : Rest m m') (l : List (Bool × Nat)) : Rest { m with roots := l } { m' with roots := l } := ⟨x.1, x.2, x.3, x.4, x.5, x.6, rfl, x.8, x.9, x.10, x.11⟩
theorem mMoved_rest (m : MH) (r : Nat) : Rest m (mMoved m r).1 := by
  unfold mMoved
  split
  · exact Rest.refl m
  · split
    · split
      · exact Rest.refl m
      · exact ⟨rfl, rfl, rfl, rfl, rfl, rfl, rfl, rfl, rfl, rfl, rfl⟩
    · split
      · split
        · exact Rest.refl m
        · exact ⟨rfl, rfl, rfl, rfl, rfl, rfl, rfl, rfl, rfl, rfl, rfl⟩
      · exact Rest.refl m
theorem setF_rest (m : MH) (t : Tgt) (j v : Nat) : Rest m (m.setF t j v) := by
  cases t <;> exact ⟨rfl, rfl, rfl, rfl, rfl, rfl, rfl, rfl, rfl, rfl, rfl⟩
theorem mLook_rest (m : MH) (t : Tgt) : ∀ n, Rest m (mLook m t n)
  | 0 => Rest.refl m
  | n + 1 => by
    have h := mLook_rest m t n
    show Rest m (match (mLook m t n).at t with | some o => _ | none => _)
    split
    · exact (h.trans (mMoved_rest _ _)).trans (setF_rest _ _ _ _)
    · exact h
theorem HRep.num {h : Hp} {hb : Nat} {role : Nat → Role} {m m' : MH} {G : Geo} (r : HRep h hb role m G) {a : Addr} {i : Nat} {v : Value} (ha : a = ⟨hb, i, none⟩) (hi : i < 19) (hc : (hcells m G).set i v = hcells m' G) (h1 : m'.hz = m.hz) (h2 : m'.half = m.half)
    (h3 : m'.sz = m.sz) (h4 : m'.spare = m.spare) (h5 : m'.blocks = m.blocks) (h6 : m'.reached = m.reached) (h7 : m'.grey = m.grey) (h8 : m'.roots = m.roots) {K : Hp → Prop} (hK : ∀ h', HRep h' hb role m' G → Ext h role h' role → K h') :
    Go.Ev.stOk h a ∧ Let (setc h a v) fun h' => K h' := by
  subst ha
  exact ⟨r.stOk hi, hK _ (r.renum hc h1 h2 h3 h4 h5 h6 h7 h8) (Ext.of (role := role) (kept_setc h i v (S := fun b => b = hb) rfl) (fun b e => by rw [e, r.rh]; nofun) fun _ _ => rfl)⟩
namespace RS
section
variable {s : RS}
theorem enc_ok (v : s.Inv) {id : Nat} (h : s.here id) : (s.enc id).Ok := by
  obtain ⟨h1, h2, h3, h4, h5⟩ := v.shp id h
  refine ⟨h1, h2, by simpa [enc] using h3, h4, fun x hx => ?_, nofun⟩
  rcases List.mem_append.1 hx with hx | hx
  · obtain ⟨r, hr, rfl⟩ := List.mem_map.1 hx
    exact ref_lt v (v.rf id h r hr)
  · exact h5 x hx
theorem CRep.begin (s : RS) : CRep s ⟨[], [], 0, 0⟩ (fun _ => 0) (s.words []) := by
  refine ⟨?_, rfl, ?_, ?_, rfl, fun _ _ _ => rfl, fun id r hr => by simp at hr, rfl⟩
  · exact List.map_congr_left fun id _ => by simp only [List.not_mem_nil, if_false]; rfl
  · exact List.map_congr_left fun id _ => by simp only [encD_zero]
  · exact List.map_congr_left fun id _ => by simp
theorem CRep.roots {g : Gc} {dn : Nat → Nat} {m : MH} (c : CRep s g dn m) (l : List (Bool × Nat)) : CRep s g dn { m with roots := l } := ⟨c.half, c.spare, c.blocks, c.reached, c.grey, c.dn0, c.dnr, c.sz⟩
/-- How far an object has been turned, by the walk's cursors. -/
def dnOf (s : RS) (g : Gc) (id : Nat) : Nat := if id ∈ g.copied.take g.a ∨ id ∈ g.line.take g.b then (s.obj id).refs.length else 0
def gR (s : RS) (i : Nat) : Gc := s.reachL ⟨[], [], 0, 0⟩ ((s.roots.take i).filterMap id)
theorem gR_len (s : RS) : s.gR s.roots.length = s.gc0 := by unfold gR; rw [List.take_length]; rfl
theorem gR_some {i : Nat} {id : Nat} (h : s.roots[i]? = some (some id)) : s.gR (i + 1) = s.reach (s.gR i) id := by
  unfold gR
  rw [take_snoc h, List.filterMap_append]
  show s.reachL _ (_ ++ [id]) = _
  rw [reachL_snoc]
theorem gR_none {i : Nat} (h : s.roots[i]? = some none) : s.gR (i + 1) = s.gR i := by
  unfold gR
  rw [take_snoc h, List.filterMap_append]
  show s.reachL _ (_ ++ []) = _
  rw [List.append_nil]
theorem gR_ok (v : s.Inv) (i : Nat) : GcOk s (s.gR i) := by
  refine GcOk.reachL v ⟨by simp, nofun, nofun, Nat.le_refl _, Nat.le_refl _⟩ fun id hid => ?_
  obtain ⟨o, ho, e⟩ := List.mem_filterMap.1 hid
  have e : o = some id := e
  subst e
  exact v.rt id (List.mem_of_mem_take ho)
def rootN (s : RS) (g : Gc) : Option Nat → Bool × Nat
  | some id => (true, s.newRef g id)
  | none => (false, 0)
def rootsAt (s : RS) (g : Gc) (i : Nat) : List (Bool × Nat) := (s.roots.take i).map (s.rootN g) ++ (s.roots.drop i).map s.rootW
theorem rootsAt_get {g : Gc} {i : Nat} {x : Option Nat} (h : s.roots[i]? = some x) : (s.rootsAt g i)[i]? = some (s.rootW x) := by
  have hi := (List.getElem?_eq_some_iff.1 h).1
  unfold rootsAt
  rw [List.getElem?_append_right (by simp; omega), List.getElem?_map, List.getElem?_drop]
  have : i + (i - ((s.roots.take i).map (s.rootN g)).length) = i := by simp; omega
  rw [this, h]; rfl
theorem rootsAt_succ {g : Gc} {i : Nat} {x : Option Nat} (h : s.roots[i]? = some x) : s.rootsAt g (i + 1) = (s.rootsAt g i).set i (s.rootN g x) := by
  obtain ⟨hi, he⟩ := List.getElem?_eq_some_iff.1 h
  unfold rootsAt
  rw [List.drop_eq_getElem_cons hi, he, take_snoc h, List.map_append, List.set_append_right _ _ (by simp; omega)]
  have : i - ((s.roots.take i).map (s.rootN g)).length = 0 := by simp; omega
  rw [this]
  simp
theorem rootsAt_congr {g g' : Gc} {i : Nat} (h : ∀ id, some id ∈ s.roots.take i → s.newRef g' id = s.newRef g id) : s.rootsAt g' i = s.rootsAt g i := by
  unfold rootsAt
  congr 1
  refine List.map_congr_left fun x hx => ?_
  cases x with
  | none => rfl
  | some id => show (true, _) = (true, _); rw [h id hx]
theorem set_same {α : Type} {l : List α} {i : Nat} {x : α} (h : l[i]? = some x) : l.set i x = l := by
  apply List.ext_getElem?
  intro j
  by_cases hj : i = j
  · subst hj; rw [List.getElem?_set_self (List.getElem?_eq_some_iff.1 h).1, h]
  · rw [List.getElem?_set_ne hj]
theorem gR_in {i : Nat} {id : Nat} (h : some id ∈ s.roots.take i) : id = 0 ∨ id ∈ (s.gR i).copied ∨ id ∈ (s.gR i).line :=
  reachL_in _ _ id (List.mem_filterMap.2 ⟨some id, h, rfl⟩)
theorem CRep.withA {g : Gc} {dn : Nat → Nat} {m : MH} (c : CRep s g dn m) (n : Nat) : CRep s { g with a := n } dn m := ⟨c.half, c.spare, c.blocks, c.reached, c.grey, c.dn0, c.dnr, c.sz⟩
theorem CRep.pop {g : Gc} {dn : Nat → Nat} {m : MH} (c : CRep s g dn m) {l : List Nat} (h : l = (g.line.drop (g.b + 1)).map fun id => (s.obj id).pl) : CRep s { g with b := g.b + 1 } dn { m with grey := l } :=
  ⟨c.half, c.spare, c.blocks, c.reached, h, c.dn0, c.dnr, c.sz⟩
theorem CRep.posA {g : Gc} {dn : Nat → Nat} {m : MH} (c : CRep s g dn m) (i : Nat) : pos m.spare i = 1 + s.sizes (g.copied.take i) := by
  rw [c.spare]; exact pos_map (fun id => s.encD_size g (dn id) id) _ _
theorem dnOf_small (v : s.Inv) {g : Gc} (k : GcOk s g) {id : Nat} (h : g.copied[g.a]? = some id) : s.dnOf g id = 0 ∧ s.dnOf { s.reachL g (s.obj id).refs with a := g.a + 1 } = upd (s.dnOf g) id (s.obj id).refs.length := by
  have hp := s.reachL_pre (s.obj id).refs g
  have hab := s.reachL_ab (s.obj id).refs g
  have hic := List.mem_of_getElem? h
  have hl := (List.getElem?_eq_some_iff.1 h).1
  have hn : id ∉ g.copied.take g.a := fun hm => by
    obtain ⟨j, hj⟩ := List.mem_iff_getElem?.1 hm
    rw [List.getElem?_take] at hj
    split at hj
    · have := (List.getElem?_inj (List.getElem?_eq_some_iff.1 hj).1 (List.nodup_append.1 k.nd).1).1 (hj.trans h.symm)
      omega
    · cases hj
  have hn2 : id ∉ g.line.take g.b := fun hm => (List.nodup_append.1 k.nd).2.2 id hic id (List.mem_of_mem_take hm) rfl
  refine ⟨by unfold dnOf; rw [if_neg (by simp [hn, hn2])], ?_⟩
  funext x
  show (if x ∈ (s.reachL g (s.obj id).refs).copied.take (g.a + 1) ∨ x ∈ (s.reachL g (s.obj id).refs).line.take (s.reachL g (s.obj id).refs).b then (s.obj x).refs.length else 0) = _
  rw [take_pre hp.1 (by omega), take_snoc h, hab.2, take_pre hp.2 k.b]
  by_cases hx : x = id
  · subst hx
    rw [upd_self, if_pos (.inl (List.mem_append_right _ (List.mem_singleton.2 rfl)))]
  · rw [upd_ne hx]
    unfold dnOf
    simp only [List.mem_append, List.mem_singleton, hx, or_false]
theorem dnOf_big (v : s.Inv) {g : Gc} (k : GcOk s g) {id : Nat} (h : g.line[g.b]? = some id) : s.dnOf g id = 0 ∧ s.dnOf { s.reachL g (s.obj id).refs with b := g.b + 1 } = upd (s.dnOf g) id (s.obj id).refs.length := by
  have hp := s.reachL_pre (s.obj id).refs g
  have hab := s.reachL_ab (s.obj id).refs g
  have hic := List.mem_of_getElem? h
  have hl := (List.getElem?_eq_some_iff.1 h).1
  have hn : id ∉ g.line.take g.b := fun hm => by
    obtain ⟨j, hj⟩ := List.mem_iff_getElem?.1 hm
    rw [List.getElem?_take] at hj
    split at hj
    · have := (List.getElem?_inj (List.getElem?_eq_some_iff.1 hj).1 (List.nodup_append.1 k.nd).2.1).1 (hj.trans h.symm)
      omega
    · cases hj
  have hn2 : id ∉ g.copied.take g.a := fun hm => (List.nodup_append.1 k.nd).2.2 id (List.mem_of_mem_take hm) id hic rfl
  refine ⟨by unfold dnOf; rw [if_neg (by simp [hn, hn2])], ?_⟩
  funext x
  show (if x ∈ (s.reachL g (s.obj id).refs).copied.take (s.reachL g (s.obj id).refs).a ∨ x ∈ (s.reachL g (s.obj id).refs).line.take (g.b + 1) then (s.obj x).refs.length else 0) = _
  rw [take_pre hp.2 (by omega), take_snoc h, hab.1, take_pre hp.1 k.a]
  by_cases hx : x = id
  · subst hx
    rw [upd_self, if_pos (.inr (List.mem_append_right _ (List.mem_singleton.2 rfl)))]
  · rw [upd_ne hx]
    unfold dnOf
    simp only [List.mem_append, List.mem_singleton, hx, or_false]
theorem dnOf_fin {g : Gc} (f : Fin g) {id : Nat} (h : id ∈ g.copied ∨ id ∈ g.line) : s.dnOf g id = (s.obj id).refs.length := by
  unfold dnOf
  rw [f.1, f.2, List.take_length, List.take_length, if_pos h]
theorem gcStep_small {g : Gc} {id : Nat} (h : g.copied[g.a]? = some id) : s.gcStep g = { s.reachL g (s.obj id).refs with a := g.a + 1 } := by unfold gcStep; rw [h]
theorem gcStep_big {g : Gc} {id : Nat} (h1 : g.copied[g.a]? = none) (h : g.line[g.b]? = some id) : s.gcStep g = { s.reachL g (s.obj id).refs with b := g.b + 1 } := by unfold gcStep; rw [h1, h]
theorem sizes_take (s : RS) (l : List Nat) (n : Nat) : s.sizes (l.take n) ≤ s.sizes l := by
  unfold sizes
  have : l = l.take n ++ l.drop n := (List.take_append_drop n l).symm
  conv => rhs; rw [this]
  rw [List.map_append, List.sum_append]
  omega
theorem sizes_snoc (s : RS) (l : List Nat) (x : Nat) : s.sizes (l ++ [x]) = s.sizes l + s.size x := by unfold sizes; simp
end
end RS
end Go.Ev
